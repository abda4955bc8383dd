/- The bound of an image: the program's and the reference's. -/
import Derived.Test.YtcpcklafkddpaaaGreatDoorClRef17
namespace Go.Cl
open Go
set_option linter.unusedSimpArgs false
set_option linter.unusedVariables false
set_option maxRecDepth 4000
variable {E : Env} {I : CallF → CallF} {N : Nat}

/-! ### the code -/
/-- Bound, the end. -/
def boundC : CCode := (.seq (.seq (.rg false [⟨(some 123), none, .p (.mv (.tmp 11))⟩,
  ⟨(some 124), none, .p (.bin .gtr (.tmp 123) (.const (.int .i64 0)))⟩]) (.cond (.tmp 124) (.rg false [⟨(some 125), none, .p (.mv (.tmp 14))⟩,
  ⟨(some 126), none, .p (.mv (.tmp 11))⟩,
  ⟨(some 127), none, .p (.bin .add (.tmp 126) (.const (.int .i64 1)))⟩,
  ⟨(some 128), none, .p (.mv (.tmp 2))⟩,
  ⟨(some 129), none, .p (.bin .mul (.tmp 127) (.tmp 128))⟩,
  ⟨(some 130), none, .p (.mv (.tmp 11))⟩,
  ⟨(some 131), none, .p (.bin .mul (.const (.int .i64 4)) (.tmp 130))⟩,
  ⟨(some 132), none, .p (.bin .add (.tmp 131) (.const (.int .i64 8)))⟩,
  ⟨(some 133), none, .p (.mv (.tmp 12))⟩,
  ⟨(some 134), none, .p (.bin .mul (.const (.int .i64 24)) (.tmp 133))⟩,
  ⟨(some 135), none, .p (.bin .add (.tmp 132) (.tmp 134))⟩,
  ⟨(some 136), none, .p (.mv (.tmp 11))⟩,
  ⟨(some 137), none, .p (.bin .add (.tmp 136) (.const (.int .i64 1)))⟩,
  ⟨(some 138), none, .p (.bin .mul (.const (.int .i64 21)) (.tmp 137))⟩,
  ⟨(some 139), none, .p (.bin .add (.tmp 135) (.tmp 138))⟩,
  ⟨(some 140), none, .p (.bin .mul (.tmp 129) (.tmp 139))⟩,
  ⟨(some 141), none, .p (.bin .add (.const (.int .i64 53)) (.tmp 140))⟩,
  ⟨(some 142), none, .p (.bin .add (.tmp 125) (.tmp 141))⟩,
  ⟨(some 14), none, .p (.mv (.tmp 142))⟩]) .skip)) (.seq (.rg false [⟨(some 143), none, .p (.mv (.tmp 14))⟩,
  ⟨(some 10), none, .p (.mv (.tmp 143))⟩]) .ret))
/-- Bound, a round behind the first flag. -/
def boundM (p2 : Nat) : CCode := (.seq (.seq (.rg false [⟨(some 101), none, .p (.faddr 2 (.tmp 6))⟩,
  ⟨(some 102), none, .l 0 0 (.var none (.tmp 101))⟩,
  ⟨(some 103), none, .p (.mv (.tmp 15))⟩,
  ⟨(some 104), none, .e true (.call p2 [(.tmp 102), (.tmp 103)])⟩]) (.cond (.tmp 104) (.rg false [⟨(some 105), none, .p (.mv (.tmp 14))⟩,
  ⟨(some 106), none, .p (.mv (.tmp 16))⟩,
  ⟨(some 107), none, .p (.mv (.tmp 13))⟩,
  ⟨(some 108), none, .p (.bin .mul (.const (.int .i64 8201)) (.tmp 107))⟩,
  ⟨(some 109), none, .p (.bin .add (.const (.int .i64 16)) (.tmp 108))⟩,
  ⟨(some 110), none, .p (.bin .mul (.tmp 106) (.tmp 109))⟩,
  ⟨(some 111), none, .p (.bin .add (.const (.int .i64 24)) (.tmp 110))⟩,
  ⟨(some 112), none, .p (.bin .add (.tmp 105) (.tmp 111))⟩,
  ⟨(some 14), none, .p (.mv (.tmp 112))⟩]) .skip)) (.seq (.rg false [⟨(some 113), none, .p (.faddr 0 (.tmp 6))⟩,
  ⟨(some 114), none, .l 0 0 (.var none (.tmp 113))⟩,
  ⟨(some 115), none, .p (.mv (.tmp 15))⟩,
  ⟨(some 116), none, .p (.bin .eql (.tmp 114) (.tmp 115))⟩]) (.cond (.tmp 116) (.rg false [⟨(some 117), none, .p (.mv (.tmp 14))⟩,
  ⟨(some 118), none, .p (.mv (.tmp 16))⟩,
  ⟨(some 119), none, .p (.bin .mul (.const (.int .i64 4)) (.tmp 118))⟩,
  ⟨(some 120), none, .p (.bin .add (.const (.int .i64 24)) (.tmp 119))⟩,
  ⟨(some 121), none, .p (.bin .add (.tmp 117) (.tmp 120))⟩,
  ⟨(some 14), none, .p (.mv (.tmp 121))⟩]) .skip)))
/-- Bound, a round. -/
def boundL (p1 p2 : Nat) : CCode := (.seq (.seq (.rg false [⟨(some 73), none, .p (.mv (.tmp 0))⟩,
  ⟨(some 74), none, .p (.mv (.tmp 15))⟩,
  ⟨(some 75), none, .e true (.call p1 [(.tmp 73), (.tmp 74)])⟩,
  ⟨(some 76), none, .p (.un .not (.tmp 75))⟩]) (.cond (.tmp 76) (.seq (.rg false [⟨(some 77), none, .p (.mv (.tmp 12))⟩,
  ⟨(some 78), none, .p (.bin .add (.tmp 77) (.const (.int .i64 1)))⟩,
  ⟨(some 12), none, .p (.mv (.tmp 78))⟩]) (.seq (.rg false [⟨(some 79), none, .p (.mv (.tmp 14))⟩,
  ⟨(some 80), none, .p (.mv (.tmp 2))⟩,
  ⟨(some 81), none, .p (.bin .mul (.const (.int .i64 8)) (.tmp 80))⟩,
  ⟨(some 82), none, .p (.bin .add (.const (.int .i64 49)) (.tmp 81))⟩,
  ⟨(some 83), none, .p (.bin .add (.tmp 79) (.tmp 82))⟩,
  ⟨(some 14), none, .p (.mv (.tmp 83))⟩]) (.exit 1))) .skip)) (.seq (.rg false [⟨(some 84), none, .p (.mv (.tmp 14))⟩,
  ⟨(some 85), none, .p (.mv (.tmp 2))⟩,
  ⟨(some 86), none, .p (.bin .mul (.const (.int .i64 3)) (.tmp 85))⟩,
  ⟨(some 87), none, .p (.bin .add (.const (.int .i64 88)) (.tmp 86))⟩,
  ⟨(some 88), none, .p (.bin .add (.tmp 84) (.tmp 87))⟩,
  ⟨(some 14), none, .p (.mv (.tmp 88))⟩]) (.seq (.seq (.rg false [⟨(some 89), none, .p (.faddr 1 (.tmp 6))⟩,
  ⟨(some 90), none, .l 0 0 (.var none (.tmp 89))⟩,
  ⟨(some 91), none, .p (.mv (.tmp 15))⟩,
  ⟨(some 92), none, .e true (.call p2 [(.tmp 90), (.tmp 91)])⟩]) (.cond (.tmp 92) (.rg false [⟨(some 93), none, .p (.mv (.tmp 14))⟩,
  ⟨(some 94), none, .p (.mv (.tmp 16))⟩,
  ⟨(some 95), none, .p (.bin .mul (.const (.int .i64 25)) (.tmp 94))⟩,
  ⟨(some 96), none, .p (.bin .add (.const (.int .i64 24)) (.tmp 95))⟩,
  ⟨(some 97), none, .p (.mv (.tmp 2))⟩,
  ⟨(some 98), none, .p (.bin .mul (.const (.int .i64 29)) (.tmp 97))⟩,
  ⟨(some 99), none, .p (.bin .add (.tmp 96) (.tmp 98))⟩,
  ⟨(some 100), none, .p (.bin .add (.tmp 93) (.tmp 99))⟩,
  ⟨(some 14), none, .p (.mv (.tmp 100))⟩]) .skip)) (boundM p2))))
/-- Bound, behind the guards. -/
def boundB (p1 p2 : Nat) : CCode := (.seq (.rg false [⟨(some 44), none, .p (.faddr 3 (.tmp 6))⟩,
  ⟨(some 45), none, .l 0 0 (.var none (.tmp 44))⟩,
  ⟨(some 46), none, .p (.lenSl (.tmp 45))⟩,
  ⟨(some 47), none, .p (.mv (.tmp 2))⟩,
  ⟨(some 48), none, .p (.bin .quo (.tmp 47) (.const (.int .i64 65536)))⟩,
  ⟨(some 49), none, .p (.bin .add (.tmp 48) (.const (.int .i64 1)))⟩,
  ⟨(some 11), none, .p (.mv (.tmp 46))⟩,
  ⟨(some 12), none, .p (.mv (.const (.int .i64 0)))⟩,
  ⟨(some 13), none, .p (.mv (.tmp 49))⟩]) (.seq (.rg false [⟨(some 50), none, .p (.mv (.tmp 0))⟩,
  ⟨(some 51), none, .p (.lenSl (.tmp 50))⟩,
  ⟨(some 52), none, .p (.bin .mul (.const (.int .i64 69)) (.tmp 51))⟩,
  ⟨(some 53), none, .p (.bin .add (.const (.int .i64 102)) (.tmp 52))⟩,
  ⟨(some 54), none, .p (.mv (.tmp 11))⟩,
  ⟨(some 55), none, .p (.bin .mul (.const (.int .i64 2)) (.tmp 54))⟩,
  ⟨(some 56), none, .p (.bin .add (.tmp 53) (.tmp 55))⟩,
  ⟨(some 57), none, .p (.bin .add (.tmp 56) (.const (.int .i64 29)))⟩,
  ⟨(some 58), none, .p (.mv (.tmp 4))⟩,
  ⟨(some 59), none, .p (.bin .add (.tmp 57) (.tmp 58))⟩,
  ⟨(some 14), none, .p (.mv (.tmp 59))⟩]) (.seq (.seq (.rg false [⟨(some 60), none, .p (.mv (.tmp 3))⟩,
  ⟨(some 61), none, .p (.lenSl (.tmp 60))⟩,
  ⟨(some 62), none, .p (.mv (.const (.int .i64 0)))⟩]) (.block 0 (.loop (.seq (.rg false [⟨(some 63), none, .p (.bin .lss (.tmp 62) (.tmp 61))⟩]) (.seq (.cond (.tmp 63) .skip (.exit 0)) (.seq (.block 1 (.seq (.rg false [⟨(some 64), none, .p (.mv (.tmp 62))⟩,
  ⟨(some 65), none, .p (.iaddr 1 (.tmp 60) (.tmp 62))⟩,
  ⟨(some 66), none, .l 0 0 (.var none (.tmp 65))⟩,
  ⟨(some 15), none, .p (.mv (.tmp 64))⟩,
  ⟨(some 16), none, .p (.mv (.tmp 66))⟩]) (.seq (.seq (.rg false [⟨(some 67), none, .p (.mv (.tmp 16))⟩,
  ⟨(some 68), none, .p (.bin .lss (.tmp 67) (.const (.int .i64 0)))⟩,
  ⟨(some 69), none, .p (.mv (.tmp 68))⟩,
  ⟨(some 70), (some (69, false)), .p (.mv (.tmp 16))⟩,
  ⟨(some 71), (some (69, false)), .p (.bin .gtr (.tmp 70) (.const (.int .i64 16777216)))⟩,
  ⟨(some 72), none, .p (.pick (.tmp 69) (.const (.bool true)) (.tmp 71))⟩]) (.cond (.tmp 72) (.seq (.rg false [⟨(some 10), none, .p (.mv (.const (.int .i64 0)))⟩]) .ret) .skip)) (boundL p1 p2)))) (.rg false [⟨(some 122), none, .p (.bin .add (.tmp 62) (.const (.int .i64 1)))⟩,
  ⟨(some 62), none, .p (.mv (.tmp 122))⟩]))))))) boundC)))
/-- isinglass/build.Bound; p0: isinglass/schema.Fits; p1: isinglass/schema.Dimension; p2: isinglass/schema.Has -/
def boundF (p0 p1 p2 : Nat) : CFun := ⟨144,
  (.seq (.rg false [⟨(some 6), none, .n (.box 5 (.tmp 1))⟩,
  ⟨(some 10), none, .p (.mv (.const (.int .i64 0)))⟩]) (.seq (.seq (.rg false [⟨(some 17), none, .p (.mv (.tmp 0))⟩,
  ⟨(some 18), none, .l 0 0 (.var (some 5) (.tmp 6))⟩,
  ⟨(some 19), none, .e true (.call p0 [(.tmp 17), (.tmp 18)])⟩,
  ⟨(some 20), none, .p (.un .not (.tmp 19))⟩,
  ⟨(some 21), none, .p (.mv (.tmp 20))⟩,
  ⟨(some 22), (some (21, false)), .p (.mv (.tmp 2))⟩,
  ⟨(some 23), (some (21, false)), .p (.bin .lss (.tmp 22) (.const (.int .i64 0)))⟩,
  ⟨(some 24), none, .p (.pick (.tmp 21) (.const (.bool true)) (.tmp 23))⟩,
  ⟨(some 25), none, .p (.mv (.tmp 24))⟩,
  ⟨(some 26), (some (25, false)), .p (.mv (.tmp 2))⟩,
  ⟨(some 27), (some (25, false)), .p (.bin .gtr (.tmp 26) (.const (.int .i64 16777216)))⟩,
  ⟨(some 28), none, .p (.pick (.tmp 25) (.const (.bool true)) (.tmp 27))⟩,
  ⟨(some 29), none, .p (.mv (.tmp 28))⟩,
  ⟨(some 30), (some (29, false)), .p (.mv (.tmp 4))⟩,
  ⟨(some 31), (some (29, false)), .p (.bin .lss (.tmp 30) (.const (.int .i64 0)))⟩,
  ⟨(some 32), none, .p (.pick (.tmp 29) (.const (.bool true)) (.tmp 31))⟩,
  ⟨(some 33), none, .p (.mv (.tmp 32))⟩,
  ⟨(some 34), (some (33, false)), .p (.mv (.tmp 4))⟩,
  ⟨(some 35), (some (33, false)), .p (.bin .gtr (.tmp 34) (.const (.int .i64 1099511627776)))⟩,
  ⟨(some 36), none, .p (.pick (.tmp 33) (.const (.bool true)) (.tmp 35))⟩,
  ⟨(some 37), none, .p (.mv (.tmp 36))⟩,
  ⟨(some 38), (some (37, false)), .p (.mv (.tmp 3))⟩,
  ⟨(some 39), (some (37, false)), .p (.lenSl (.tmp 38))⟩,
  ⟨(some 40), (some (37, false)), .p (.mv (.tmp 0))⟩,
  ⟨(some 41), (some (37, false)), .p (.lenSl (.tmp 40))⟩,
  ⟨(some 42), (some (37, false)), .p (.bin .neq (.tmp 39) (.tmp 41))⟩,
  ⟨(some 43), none, .p (.pick (.tmp 37) (.const (.bool true)) (.tmp 42))⟩]) (.cond (.tmp 43) (.seq (.rg false [⟨(some 10), none, .p (.mv (.const (.int .i64 0)))⟩]) .ret) .skip)) (boundB p1 p2))),
  [.tmp 10]⟩
/-- Bound, the end. -/
def rBoundD : CCode := (.seq (.rg false [⟨(some 141), none, .p (.mv (.tmp 13))⟩,
  ⟨(some 142), none, .p (.mv (.tmp 4))⟩,
  ⟨(some 143), none, .p (.bin .add (.tmp 141) (.tmp 142))⟩,
  ⟨(some 13), none, .p (.mv (.tmp 143))⟩]) (.seq (.seq (.rg false [⟨(some 144), none, .p (.mv (.tmp 12))⟩,
  ⟨(some 145), none, .p (.bin .gtr (.tmp 144) (.const (.int .i64 0)))⟩]) (.cond (.tmp 145) (.seq (.rg false [⟨(some 146), none, .p (.mv (.tmp 12))⟩,
  ⟨(some 147), none, .p (.bin .mul (.const (.int .i64 4)) (.tmp 146))⟩,
  ⟨(some 148), none, .p (.bin .add (.tmp 147) (.const (.int .i64 8)))⟩,
  ⟨(some 149), none, .p (.mv (.tmp 14))⟩,
  ⟨(some 150), none, .p (.bin .mul (.const (.int .i64 24)) (.tmp 149))⟩,
  ⟨(some 151), none, .p (.bin .add (.tmp 148) (.tmp 150))⟩,
  ⟨(some 152), none, .p (.mv (.tmp 12))⟩,
  ⟨(some 153), none, .p (.bin .add (.tmp 152) (.const (.int .i64 1)))⟩,
  ⟨(some 154), none, .p (.bin .mul (.const (.int .i64 21)) (.tmp 153))⟩,
  ⟨(some 155), none, .p (.bin .add (.tmp 151) (.tmp 154))⟩,
  ⟨(some 16), none, .p (.mv (.tmp 155))⟩]) (.rg false [⟨(some 156), none, .p (.mv (.tmp 13))⟩,
  ⟨(some 157), none, .p (.bin .add (.tmp 156) (.const (.int .i64 40)))⟩,
  ⟨(some 158), none, .p (.mv (.tmp 12))⟩,
  ⟨(some 159), none, .p (.bin .add (.tmp 158) (.const (.int .i64 1)))⟩,
  ⟨(some 160), none, .p (.mv (.tmp 2))⟩,
  ⟨(some 161), none, .p (.bin .mul (.tmp 159) (.tmp 160))⟩,
  ⟨(some 162), none, .p (.mv (.tmp 16))⟩,
  ⟨(some 163), none, .p (.bin .mul (.tmp 161) (.tmp 162))⟩,
  ⟨(some 164), none, .p (.bin .add (.tmp 157) (.tmp 163))⟩,
  ⟨(some 165), none, .p (.bin .add (.tmp 164) (.const (.int .i64 13)))⟩,
  ⟨(some 13), none, .p (.mv (.tmp 165))⟩])) .skip)) (.seq (.rg false [⟨(some 166), none, .p (.mv (.tmp 13))⟩,
  ⟨(some 10), none, .p (.mv (.tmp 166))⟩]) .ret)))
/-- Bound, a round behind the first flag. -/
def rBoundM (p1 : Nat) : CCode := (.seq (.seq (.rg false [⟨(some 112), none, .p (.faddr 2 (.tmp 6))⟩,
  ⟨(some 113), none, .l 0 0 (.var none (.tmp 112))⟩,
  ⟨(some 114), none, .p (.mv (.tmp 15))⟩,
  ⟨(some 115), none, .e true (.call p1 [(.tmp 113), (.tmp 114)])⟩]) (.cond (.tmp 115) (.rg false [⟨(some 116), none, .p (.mv (.tmp 13))⟩,
  ⟨(some 117), none, .p (.bin .add (.tmp 116) (.const (.int .i64 24)))⟩,
  ⟨(some 118), none, .p (.mv (.tmp 3))⟩,
  ⟨(some 119), none, .p (.mv (.tmp 15))⟩,
  ⟨(some 120), none, .p (.iaddr 1 (.tmp 118) (.tmp 119))⟩,
  ⟨(some 121), none, .l 0 0 (.var none (.tmp 120))⟩,
  ⟨(some 122), none, .p (.mv (.tmp 2))⟩,
  ⟨(some 123), none, .p (.bin .quo (.tmp 122) (.const (.int .i64 65536)))⟩,
  ⟨(some 124), none, .p (.bin .add (.tmp 123) (.const (.int .i64 1)))⟩,
  ⟨(some 125), none, .p (.bin .mul (.const (.int .i64 8201)) (.tmp 124))⟩,
  ⟨(some 126), none, .p (.bin .add (.const (.int .i64 16)) (.tmp 125))⟩,
  ⟨(some 127), none, .p (.bin .mul (.tmp 121) (.tmp 126))⟩,
  ⟨(some 128), none, .p (.bin .add (.tmp 117) (.tmp 127))⟩,
  ⟨(some 13), none, .p (.mv (.tmp 128))⟩]) .skip)) (.seq (.rg false [⟨(some 129), none, .p (.faddr 0 (.tmp 6))⟩,
  ⟨(some 130), none, .l 0 0 (.var none (.tmp 129))⟩,
  ⟨(some 131), none, .p (.mv (.tmp 15))⟩,
  ⟨(some 132), none, .p (.bin .eql (.tmp 130) (.tmp 131))⟩]) (.cond (.tmp 132) (.rg false [⟨(some 133), none, .p (.mv (.tmp 13))⟩,
  ⟨(some 134), none, .p (.bin .add (.tmp 133) (.const (.int .i64 24)))⟩,
  ⟨(some 135), none, .p (.mv (.tmp 3))⟩,
  ⟨(some 136), none, .p (.mv (.tmp 15))⟩,
  ⟨(some 137), none, .p (.iaddr 1 (.tmp 135) (.tmp 136))⟩,
  ⟨(some 138), none, .l 0 0 (.var none (.tmp 137))⟩,
  ⟨(some 139), none, .p (.bin .mul (.const (.int .i64 4)) (.tmp 138))⟩,
  ⟨(some 140), none, .p (.bin .add (.tmp 134) (.tmp 139))⟩,
  ⟨(some 13), none, .p (.mv (.tmp 140))⟩]) .skip)))
/-- Bound, a round. -/
def rBoundL (p1 : Nat) : CCode := (.seq (.seq (.rg false [⟨(some 79), none, .p (.mv (.tmp 0))⟩,
  ⟨(some 80), none, .p (.mv (.tmp 15))⟩,
  ⟨(some 81), none, .p (.iaddr 2 (.tmp 79) (.tmp 80))⟩,
  ⟨(some 82), none, .p (.faddr 1 (.tmp 81))⟩,
  ⟨(some 83), none, .l 0 0 (.var none (.tmp 82))⟩,
  ⟨(some 84), none, .p (.bin .eql (.tmp 83) (.const (.int .u8 3)))⟩]) (.cond (.tmp 84) (.seq (.rg false [⟨(some 85), none, .p (.mv (.tmp 14))⟩,
  ⟨(some 86), none, .p (.bin .add (.tmp 85) (.const (.int .i64 1)))⟩,
  ⟨(some 14), none, .p (.mv (.tmp 86))⟩]) (.seq (.rg false [⟨(some 87), none, .p (.mv (.tmp 13))⟩,
  ⟨(some 88), none, .p (.bin .add (.tmp 87) (.const (.int .i64 49)))⟩,
  ⟨(some 89), none, .p (.mv (.tmp 2))⟩,
  ⟨(some 90), none, .p (.bin .mul (.const (.int .i64 8)) (.tmp 89))⟩,
  ⟨(some 91), none, .p (.bin .add (.tmp 88) (.tmp 90))⟩,
  ⟨(some 13), none, .p (.mv (.tmp 91))⟩]) (.exit 3))) .skip)) (.seq (.rg false [⟨(some 92), none, .p (.mv (.tmp 13))⟩,
  ⟨(some 93), none, .p (.bin .add (.tmp 92) (.const (.int .i64 88)))⟩,
  ⟨(some 94), none, .p (.mv (.tmp 2))⟩,
  ⟨(some 95), none, .p (.bin .mul (.const (.int .i64 3)) (.tmp 94))⟩,
  ⟨(some 96), none, .p (.bin .add (.tmp 93) (.tmp 95))⟩,
  ⟨(some 13), none, .p (.mv (.tmp 96))⟩]) (.seq (.seq (.rg false [⟨(some 97), none, .p (.faddr 1 (.tmp 6))⟩,
  ⟨(some 98), none, .l 0 0 (.var none (.tmp 97))⟩,
  ⟨(some 99), none, .p (.mv (.tmp 15))⟩,
  ⟨(some 100), none, .e true (.call p1 [(.tmp 98), (.tmp 99)])⟩]) (.cond (.tmp 100) (.rg false [⟨(some 101), none, .p (.mv (.tmp 13))⟩,
  ⟨(some 102), none, .p (.bin .add (.tmp 101) (.const (.int .i64 24)))⟩,
  ⟨(some 103), none, .p (.mv (.tmp 3))⟩,
  ⟨(some 104), none, .p (.mv (.tmp 15))⟩,
  ⟨(some 105), none, .p (.iaddr 1 (.tmp 103) (.tmp 104))⟩,
  ⟨(some 106), none, .l 0 0 (.var none (.tmp 105))⟩,
  ⟨(some 107), none, .p (.bin .mul (.const (.int .i64 25)) (.tmp 106))⟩,
  ⟨(some 108), none, .p (.bin .add (.tmp 102) (.tmp 107))⟩,
  ⟨(some 109), none, .p (.mv (.tmp 2))⟩,
  ⟨(some 110), none, .p (.bin .mul (.const (.int .i64 29)) (.tmp 109))⟩,
  ⟨(some 111), none, .p (.bin .add (.tmp 108) (.tmp 110))⟩,
  ⟨(some 13), none, .p (.mv (.tmp 111))⟩]) .skip)) (rBoundM p1))))
/-- Bound, behind the numbers' tests. -/
def rBoundC (p1 : Nat) : CCode := (.seq (.rg false [⟨(some 62), none, .p (.faddr 3 (.tmp 6))⟩,
  ⟨(some 63), none, .l 0 0 (.var none (.tmp 62))⟩,
  ⟨(some 64), none, .p (.lenSl (.tmp 63))⟩,
  ⟨(some 12), none, .p (.mv (.tmp 64))⟩]) (.seq (.rg false [⟨(some 65), none, .p (.mv (.tmp 0))⟩,
  ⟨(some 66), none, .p (.lenSl (.tmp 65))⟩,
  ⟨(some 67), none, .p (.bin .mul (.const (.int .i64 69)) (.tmp 66))⟩,
  ⟨(some 68), none, .p (.bin .add (.const (.int .i64 102)) (.tmp 67))⟩,
  ⟨(some 69), none, .p (.mv (.tmp 12))⟩,
  ⟨(some 70), none, .p (.bin .mul (.const (.int .i64 2)) (.tmp 69))⟩,
  ⟨(some 71), none, .p (.bin .add (.tmp 68) (.tmp 70))⟩,
  ⟨(some 72), none, .p (.bin .add (.tmp 71) (.const (.int .i64 29)))⟩,
  ⟨(some 13), none, .p (.mv (.tmp 72))⟩]) (.seq (.rg false [⟨(some 14), none, .p (.mv (.const (.int .i64 0)))⟩]) (.seq (.seq (.rg false [⟨(some 15), none, .p (.mv (.const (.int .i64 0)))⟩]) (.block 2 (.loop (.seq (.seq (.rg false [⟨(some 73), none, .p (.mv (.tmp 15))⟩,
  ⟨(some 74), none, .p (.mv (.tmp 0))⟩,
  ⟨(some 75), none, .p (.lenSl (.tmp 74))⟩,
  ⟨(some 76), none, .p (.bin .lss (.tmp 73) (.tmp 75))⟩]) (.cond (.tmp 76) .skip (.exit 2))) (.seq (.block 3 (rBoundL p1)) (.rg false [⟨(some 77), none, .p (.mv (.tmp 15))⟩,
  ⟨(some 78), none, .p (.bin .add (.tmp 77) (.const (.int .i64 1)))⟩,
  ⟨(some 15), none, .p (.mv (.tmp 78))⟩])))))) rBoundD))))
/-- Bound, behind the guards. -/
def rBoundB (p1 : Nat) : CCode := (.seq (.seq (.rg false [⟨(some 11), none, .p (.mv (.const (.int .i64 0)))⟩]) (.block 0 (.loop (.seq (.seq (.rg false [⟨(some 44), none, .p (.mv (.tmp 11))⟩,
  ⟨(some 45), none, .p (.mv (.tmp 3))⟩,
  ⟨(some 46), none, .p (.lenSl (.tmp 45))⟩,
  ⟨(some 47), none, .p (.bin .lss (.tmp 44) (.tmp 46))⟩]) (.cond (.tmp 47) .skip (.exit 0))) (.seq (.block 1 (.seq (.rg false [⟨(some 50), none, .p (.mv (.tmp 3))⟩,
  ⟨(some 51), none, .p (.mv (.tmp 11))⟩,
  ⟨(some 52), none, .p (.iaddr 1 (.tmp 50) (.tmp 51))⟩,
  ⟨(some 53), none, .l 0 0 (.var none (.tmp 52))⟩,
  ⟨(some 54), none, .p (.bin .lss (.tmp 53) (.const (.int .i64 0)))⟩,
  ⟨(some 55), none, .p (.mv (.tmp 54))⟩,
  ⟨(some 56), (some (55, false)), .p (.mv (.tmp 3))⟩,
  ⟨(some 57), (some (55, false)), .p (.mv (.tmp 11))⟩,
  ⟨(some 58), (some (55, false)), .p (.iaddr 1 (.tmp 56) (.tmp 57))⟩,
  ⟨(some 59), (some (55, false)), .l 0 0 (.var none (.tmp 58))⟩,
  ⟨(some 60), (some (55, false)), .p (.bin .gtr (.tmp 59) (.const (.int .i64 16777216)))⟩,
  ⟨(some 61), none, .p (.pick (.tmp 55) (.const (.bool true)) (.tmp 60))⟩]) (.cond (.tmp 61) (.seq (.rg false [⟨(some 10), none, .p (.mv (.const (.int .i64 0)))⟩]) .ret) .skip))) (.rg false [⟨(some 48), none, .p (.mv (.tmp 11))⟩,
  ⟨(some 49), none, .p (.bin .add (.tmp 48) (.const (.int .i64 1)))⟩,
  ⟨(some 11), none, .p (.mv (.tmp 49))⟩])))))) (rBoundC p1))
/-- isinglass/isinglassref22.Bound; p0: isinglass/isinglassref17.Fits; p1: isinglass/isinglassref17.Has -/
def rBoundF (p0 p1 : Nat) : CFun := ⟨167,
  (.seq (.rg false [⟨(some 6), none, .n (.box 5 (.tmp 1))⟩,
  ⟨(some 10), none, .p (.mv (.const (.int .i64 0)))⟩]) (.seq (.seq (.rg false [⟨(some 17), none, .p (.mv (.tmp 0))⟩,
  ⟨(some 18), none, .l 0 0 (.var (some 5) (.tmp 6))⟩,
  ⟨(some 19), none, .e true (.call p0 [(.tmp 17), (.tmp 18)])⟩,
  ⟨(some 20), none, .p (.un .not (.tmp 19))⟩,
  ⟨(some 21), none, .p (.mv (.tmp 20))⟩,
  ⟨(some 22), (some (21, false)), .p (.mv (.tmp 2))⟩,
  ⟨(some 23), (some (21, false)), .p (.bin .lss (.tmp 22) (.const (.int .i64 0)))⟩,
  ⟨(some 24), none, .p (.pick (.tmp 21) (.const (.bool true)) (.tmp 23))⟩,
  ⟨(some 25), none, .p (.mv (.tmp 24))⟩,
  ⟨(some 26), (some (25, false)), .p (.mv (.tmp 2))⟩,
  ⟨(some 27), (some (25, false)), .p (.bin .gtr (.tmp 26) (.const (.int .i64 16777216)))⟩,
  ⟨(some 28), none, .p (.pick (.tmp 25) (.const (.bool true)) (.tmp 27))⟩,
  ⟨(some 29), none, .p (.mv (.tmp 28))⟩,
  ⟨(some 30), (some (29, false)), .p (.mv (.tmp 4))⟩,
  ⟨(some 31), (some (29, false)), .p (.bin .lss (.tmp 30) (.const (.int .i64 0)))⟩,
  ⟨(some 32), none, .p (.pick (.tmp 29) (.const (.bool true)) (.tmp 31))⟩,
  ⟨(some 33), none, .p (.mv (.tmp 32))⟩,
  ⟨(some 34), (some (33, false)), .p (.mv (.tmp 4))⟩,
  ⟨(some 35), (some (33, false)), .p (.bin .gtr (.tmp 34) (.const (.int .i64 1099511627776)))⟩,
  ⟨(some 36), none, .p (.pick (.tmp 33) (.const (.bool true)) (.tmp 35))⟩,
  ⟨(some 37), none, .p (.mv (.tmp 36))⟩,
  ⟨(some 38), (some (37, false)), .p (.mv (.tmp 3))⟩,
  ⟨(some 39), (some (37, false)), .p (.lenSl (.tmp 38))⟩,
  ⟨(some 40), (some (37, false)), .p (.mv (.tmp 0))⟩,
  ⟨(some 41), (some (37, false)), .p (.lenSl (.tmp 40))⟩,
  ⟨(some 42), (some (37, false)), .p (.bin .neq (.tmp 39) (.tmp 41))⟩,
  ⟨(some 43), none, .p (.pick (.tmp 37) (.const (.bool true)) (.tmp 42))⟩]) (.cond (.tmp 43) (.seq (.rg false [⟨(some 10), none, .p (.mv (.const (.int .i64 0)))⟩]) .ret) .skip)) (rBoundB p1))),
  [.tmp 10]⟩

/-! ### whole numbers that turn over -/
theorem wrap_mod (k : IntKind) (n : Int) : k.wrap n % (2 ^ k.bits : Int) = n % (2 ^ k.bits : Int) := by
  unfold IntKind.wrap
  simp only
  split
  · rw [Int.sub_emod, Int.emod_self, Int.sub_zero, Int.emod_emod, Int.emod_emod]
  · rw [Int.emod_emod]
theorem wrap_congr (k : IntKind) {a b : Int} (h : a % (2 ^ k.bits : Int) = b % (2 ^ k.bits : Int)) : k.wrap a = k.wrap b := by
  unfold IntKind.wrap
  simp only [h]
theorem cw_cw (k : IntKind) (a : Int) : cwrap k (cwrap k a) = cwrap k a := by
  simp only [cwrap_eq]; exact wrap_congr k (wrap_mod k a)
theorem cw_add_l (k : IntKind) (a b : Int) : cwrap k (cwrap k a + b) = cwrap k (a + b) := by
  simp only [cwrap_eq]; apply wrap_congr; rw [Int.add_emod, wrap_mod, ← Int.add_emod]
theorem cw_add_r (k : IntKind) (a b : Int) : cwrap k (a + cwrap k b) = cwrap k (a + b) := by
  simp only [cwrap_eq]; apply wrap_congr; rw [Int.add_emod, wrap_mod, ← Int.add_emod]
theorem cw_mul_l (k : IntKind) (a b : Int) : cwrap k (cwrap k a * b) = cwrap k (a * b) := by
  simp only [cwrap_eq]; apply wrap_congr; rw [Int.mul_emod, wrap_mod, ← Int.mul_emod]
theorem cw_mul_r (k : IntKind) (a b : Int) : cwrap k (a * cwrap k b) = cwrap k (a * b) := by
  simp only [cwrap_eq]; apply wrap_congr; rw [Int.mul_emod, wrap_mod, ← Int.mul_emod]
/-! ### the bound -/
open Classical in
/-- A column's part. -/
noncomputable def part (cols : List Col) (c : Conf) (rows : Int) (i : Nat) (d : Int) : Int :=
  if DimP cols (i : Nat) then 88 + 3 * rows + (if c.inv[i]? = some true then 24 + 25 * d + 29 * rows else 0) + (if c.rng[i]? = some true then 24 + d * (16 + 8201 * (rows.tdiv 65536 + 1)) else 0) + (if c.sort = (i : Nat) then 24 + 4 * d else 0)
  else 49 + 8 * rows
/-- The parts of the first columns. -/
noncomputable def parts (cols : List Col) (c : Conf) (rows : Int) (many : List Int) : Nat → Int
  | 0 => 0
  | k + 1 => parts cols c rows many k + part cols c rows k (many[k]?.getD 0)
open Classical in
/-- The metrics among the first columns. -/
noncomputable def metrics (cols : List Col) : Nat → Nat
  | 0 => 0
  | k + 1 => metrics cols k + (if DimP cols (k : Nat) then 0 else 1)
theorem metrics_le (cols : List Col) : ∀ k, metrics cols k ≤ k
  | 0 => Nat.le_refl _
  | k + 1 => by
    simp only [metrics]
    have := metrics_le cols k
    split <;> omega
open Classical in
noncomputable def boundZ (cols : List Col) (c : Conf) (rows : Int) (many : List Int) (texts : Int) : Int :=
  102 + 69 * (cols.length : Nat) + 2 * (c.split.length : Nat) + 29 + texts + parts cols c rows many cols.length +
    (if c.split.length = 0 then 0 else 53 + ((c.split.length : Nat) + 1) * rows * (4 * (c.split.length : Nat) + 8 + 24 * (metrics cols cols.length : Nat) + 21 * ((c.split.length : Nat) + 1)))
def goodM (many : List Int) (k : Nat) : Prop := ∀ (i : Nat) (d : Int), i < k → many[i]? = some d → 0 ≤ d ∧ d ≤ 16777216
def GoodP (cols : List Col) (c : Conf) (rows : Int) (many : List Int) (texts : Int) : Prop := FitsP cols c ∧ 0 ≤ rows ∧ rows ≤ 16777216 ∧ 0 ≤ texts ∧ texts ≤ 1099511627776 ∧ many.length = cols.length ∧ goodM many many.length
def BoundP (cols : List Col) (c : Conf) (rows : Int) (many : List Int) (texts : Int) (r : Int) : Prop :=
  (GoodP cols c rows many texts → r = cwrap .i64 (boundZ cols c rows many texts)) ∧ (¬ GoodP cols c rows many texts → r = 0)
theorem BoundP.eq {cols : List Col} {c : Conf} {rows texts r r' : Int} {many : List Int} (h : BoundP cols c rows many texts r) (h' : BoundP cols c rows many texts r') : r = r' := by
  by_cases hg : GoodP cols c rows many texts
  · rw [h.1 hg, h'.1 hg]
  · rw [h.2 hg, h'.2 hg]
theorem boundC_ok {d : Nat} {cols : List Col} {c : Conf} {rows texts : Int} {many : List Int} {h H : CH} {τ : Tau} (hk : Keep h H) (hg : GoodP cols c rows many texts)
    (t2 : τ 2 = .int .i64 rows) (t11 : τ 11 = .int .i64 (c.split.length : Nat)) (t12 : τ 12 = .int .i64 (metrics cols cols.length : Nat))
    (t14 : τ 14 = .int .i64 (cwrap .i64 (102 + 69 * (cols.length : Nat) + 2 * (c.split.length : Nat) + 29 + texts + parts cols c rows many cols.length))) :
    wT E (ccall E I N d) N boundC τ H (fT E [CRes.tmp 10] (IntR (BoundP cols c rows many texts) h)) := by
  generalize hA : (102 + 69 * ((cols.length : Nat) : Int) + 2 * ((c.split.length : Nat) : Int) + 29 + texts + parts cols c rows many cols.length) = A at *
  have hz : boundZ cols c rows many texts = A + (if c.split.length = 0 then 0 else 53 + ((c.split.length : Nat) + 1) * rows * (4 * (c.split.length : Nat) + 8 + 24 * (metrics cols cols.length : Nat) + 21 * ((c.split.length : Nat) + 1))) := by rw [← hA]; rfl
  generalize hl : c.split.length = n at *
  by_cases h0 : n = 0
  · have h0' : ¬ (0 < n) := by omega
    simp [boundC, t2, t11, t12, t14, h0']
    exact ⟨_, rfl, ⟨fun _ => by rw [hz, if_pos h0, Int.add_zero], fun hn => absurd hg hn⟩, hk⟩
  · have h0' : 0 < n := by omega
    simp [boundC, t2, t11, t12, t14, h0', cw_add_l, cw_add_r, cw_mul_l, cw_mul_r, cw_cw]
    exact ⟨_, rfl, ⟨fun _ => by rw [hz, if_neg h0], fun hn => absurd hg hn⟩, hk⟩
theorem rBoundD_ok {d : Nat} {cols : List Col} {c : Conf} {rows texts : Int} {many : List Int} {h H : CH} {τ : Tau} (hk : Keep h H) (hg : GoodP cols c rows many texts)
    (t2 : τ 2 = .int .i64 rows) (t4 : τ 4 = .int .i64 texts) (t12 : τ 12 = .int .i64 (c.split.length : Nat)) (t14 : τ 14 = .int .i64 (metrics cols cols.length : Nat))
    (t13 : τ 13 = .int .i64 (cwrap .i64 (102 + 69 * (cols.length : Nat) + 2 * (c.split.length : Nat) + 29 + parts cols c rows many cols.length))) :
    wT E (ccall E I N d) N rBoundD τ H (fT E [CRes.tmp 10] (IntR (BoundP cols c rows many texts) h)) := by
  generalize hA : (102 + 69 * ((cols.length : Nat) : Int) + 2 * ((c.split.length : Nat) : Int) + 29 + parts cols c rows many cols.length) = A at *
  have hz : boundZ cols c rows many texts = A + texts + (if c.split.length = 0 then 0 else 53 + ((c.split.length : Nat) + 1) * rows * (4 * (c.split.length : Nat) + 8 + 24 * (metrics cols cols.length : Nat) + 21 * ((c.split.length : Nat) + 1))) := by rw [← hA]; unfold boundZ; omega
  generalize hl : c.split.length = n at *
  by_cases h0 : n = 0
  · have h0' : ¬ (0 < n) := by omega
    simp [rBoundD, t2, t4, t12, t13, t14, h0', cw_add_l, cw_add_r, cw_mul_l, cw_mul_r, cw_cw]
    exact ⟨_, rfl, ⟨fun _ => by rw [hz, if_pos h0, Int.add_zero], fun hn => absurd hg hn⟩, hk⟩
  · have h0' : 0 < n := by omega
    simp [rBoundD, t2, t4, t12, t13, t14, h0', cw_add_l, cw_add_r, cw_mul_l, cw_mul_r, cw_cw]
    refine ⟨_, rfl, ⟨fun _ => ?_, fun hn => absurd hg hn⟩, hk⟩
    rw [hz, if_neg h0]
    congr 1
    generalize ((n : Int) + 1) * rows * (4 * (n : Int) + 8 + 24 * ((metrics cols cols.length : Nat) : Int) + 21 * ((n : Int) + 1)) = X
    omega
/-! ### the program's rounds -/
def BndI (cols : List Col) (c : Conf) (rows : Int) (many : List Int) (texts : Int) (v mv iv rv sv : Value) (id : Nat) (h : CH) (m : Nat) (τ : Tau) (h' : CH) : Prop := ∃ j : Nat, m = many.length - j ∧ j ≤ many.length ∧ τ 0 = v ∧ τ 2 = .int .i64 rows ∧ τ 6 = ptr0 id ∧ τ 11 = .int .i64 (c.split.length : Nat) ∧
  τ 12 = .int .i64 (metrics cols j : Nat) ∧ τ 13 = .int .i64 (cwrap .i64 (rows.tdiv 65536 + 1)) ∧ τ 14 = .int .i64 (cwrap .i64 (102 + 69 * (cols.length : Nat) + 2 * (c.split.length : Nat) + 29 + texts + parts cols c rows many j)) ∧
  τ 60 = mv ∧ τ 61 = .int .i64 (many.length : Nat) ∧ τ 62 = .int .i64 (j : Nat) ∧ Keep h h' ∧ h'.get id = some (fresh [.int .i64 c.sort, iv, rv, sv, .int .i64 c.leaf]) ∧ id < h'.next ∧ goodM many j
theorem boundL_ok {dm hs' : FuncId} (hdm : HasF E I dm dimF) (hhs : HasF E I hs' hasF) {d : Nat} {cols : List Col} {c : Conf} {rows texts : Int} {many : List Int} {v mv iv rv sv : Value} {id j : Nat} {x : Int} {h h' : CH} {τ : Tau}
    (hs : SlG E v cols.length 2 (colCells cols)) (hc : ConfC E c iv rv sv) (hI : many.length ≤ maxI) (hlt : j < many.length) (hjx : many[j]? = some x) (hx : 0 ≤ x ∧ x ≤ 16777216)
    (t0 : τ 0 = v) (t2 : τ 2 = .int .i64 rows) (t6 : τ 6 = ptr0 id) (t11 : τ 11 = .int .i64 (c.split.length : Nat)) (t12 : τ 12 = .int .i64 (metrics cols j : Nat)) (t13 : τ 13 = .int .i64 (cwrap .i64 (rows.tdiv 65536 + 1)))
    (t14 : τ 14 = .int .i64 (cwrap .i64 (102 + 69 * (cols.length : Nat) + 2 * (c.split.length : Nat) + 29 + texts + parts cols c rows many j))) (t15 : τ 15 = .int .i64 (j : Nat)) (t16 : τ 16 = .int .i64 x)
    (t60 : τ 60 = mv) (t61 : τ 61 = .int .i64 (many.length : Nat)) (t62 : τ 62 = .int .i64 (j : Nat)) (hk : Keep h h') (hg : h'.get id = some (fresh [.int .i64 c.sort, iv, rv, sv, .int .i64 c.leaf])) (hid : id < h'.next) (hall : goodM many j) {Q : Post3} :
    wT E (ccall E I N (d + 1)) N (boundL dm hs') τ h' (bT 1 (sT E (ccall E I N (d + 1)) N (.rg false [⟨(some 122), none, .p (.bin .add (.tmp 62) (.const (.int .i64 1)))⟩,
  ⟨(some 62), none, .p (.mv (.tmp 122))⟩]) (lT (BndI cols c rows many texts v mv iv rv sv id h) (many.length - j) Q))) := by
  have l0 : ∀ H2, H2.get id = some (fresh [.int .i64 c.sort, iv, rv, sv, .int .i64 c.leaf]) → lVar E H2 none (.pointer (some ⟨id, 0, some 0⟩)) = some (.int .i64 c.sort) := fun H2 hg => lVar_fresh hg rfl
  have l1 : ∀ H2, H2.get id = some (fresh [.int .i64 c.sort, iv, rv, sv, .int .i64 c.leaf]) → lVar E H2 none (.pointer (some ⟨id, 1, some 0⟩)) = some iv := fun H2 hg => lVar_fresh hg rfl
  have l2 : ∀ H2, H2.get id = some (fresh [.int .i64 c.sort, iv, rv, sv, .int .i64 c.leaf]) → lVar E H2 none (.pointer (some ⟨id, 2, some 0⟩)) = some rv := fun H2 hg => lVar_fresh hg rfl
  have hadd : cwrap .i64 ((j : Int) + 1) = ((j + 1 : Nat) : Int) := by rw [wrap_i64] <;> unfold maxI at hI <;> omega
  have hgood : goodM many (j + 1) := fun i y hi hiy => by
    rcases Nat.lt_succ_iff_lt_or_eq.1 hi with h1 | rfl
    · exact hall i y h1 hiy
    · rw [hjx] at hiy
      injection hiy with hiy
      subst hiy
      exact hx
  have hpart : parts cols c rows many (j + 1) = parts cols c rows many j + part cols c rows j x := by simp only [parts, hjx, Option.getD_some]
  have next : ∀ {τ : Tau} {h2 : CH}, τ 0 = v → τ 2 = .int .i64 rows → τ 6 = ptr0 id → τ 11 = .int .i64 (c.split.length : Nat) → τ 12 = .int .i64 (metrics cols (j + 1) : Nat) → τ 13 = .int .i64 (cwrap .i64 (rows.tdiv 65536 + 1)) →
      (∃ Y, τ 14 = .int .i64 (cwrap .i64 Y) ∧ Y = 102 + 69 * ((cols.length : Nat) : Int) + 2 * ((c.split.length : Nat) : Int) + 29 + texts + parts cols c rows many j + part cols c rows j x) → τ 60 = mv → τ 61 = .int .i64 (many.length : Nat) → τ 62 = .int .i64 ((j + 1 : Nat) : Int) → Keep h h2 → h2.get id = some (fresh [.int .i64 c.sort, iv, rv, sv, .int .i64 c.leaf]) → id < h2.next →
      lT (BndI cols c rows many texts v mv iv rv sv id h) (many.length - j) Q .normal τ h2 := by
    intro τ h2 a0 a2 a6 a11 a12 a13 ⟨Y, a14, hY⟩ a60 a61 a62 hk hg hid
    refine lT_mk (many.length - (j + 1)) (by omega) ⟨j + 1, rfl, hlt, a0, a2, a6, a11, a12, a13, ?_, a60, a61, a62, hk, hg, hid, hgood⟩
    rw [a14, hpart, hY]
    congr 2
    omega
  generalize hA : (102 + 69 * ((cols.length : Nat) : Int) + 2 * ((c.split.length : Nat) : Int) + 29 + texts + parts cols c rows many j) = A at *
  simp [boundL, t0, t15]
  refine eT_call (dim_ok (d := d) hdm hs) fun v2 h2 ⟨bb, hv, hb, hk2⟩ => ?_
  subst hv
  have hg2 := (hk2.2 _ hid).trans hg
  have hid2 := Nat.lt_of_lt_of_le hid hk2.1
  have hkk := hk.trans hk2
  cases bb with
  | false =>
    have hnd : ¬ DimP cols (j : Nat) := fun h => by have := hb.2 h; cases this
    have hm : metrics cols (j + 1) = metrics cols j + 1 := by simp only [metrics, if_neg hnd]
    have hmw : cwrap .i64 (((metrics cols j : Nat) : Int) + 1) = ((metrics cols j + 1 : Nat) : Int) := by
      have := metrics_le cols j
      rw [wrap_i64] <;> unfold maxI at hI <;> omega
    simp [t0, t2, t6, t11, t12, t13, t14, t15, t16, t60, t61, t62, cw_add_l, cw_add_r, cw_mul_l, cw_mul_r, cw_cw]
    exact next (by simp [t0]) (by simp [t2]) (by simp [t6]) (by simp [t11]) (by simp [hm, hmw]) (by simp [t13]) ⟨_, by simp; rfl, by unfold part; rw [if_neg hnd]⟩ (by simp [t60]) (by simp [t61]) (by simp [hadd]) hkk hg2 hid2
  | true =>
    have hd := hb.1 rfl
    have hm : metrics cols (j + 1) = metrics cols j := by simp only [metrics, if_pos hd, Nat.add_zero]
    simp [t0, t2, t6, t11, t12, t13, t14, t15, t16, t60, t61, t62, ptr0, l1 _ hg2, cw_add_l, cw_add_r, cw_mul_l, cw_mul_r, cw_cw]
    refine eT_call (has_ok (d := d) hhs (i := (j : Nat)) hc.inv) fun v3 h3 ⟨b3, hv, hb3, hk3⟩ => ?_
    subst hv
    have hg3 := (hk3.2 _ hid2).trans hg2
    have hid3 := Nat.lt_of_lt_of_le hid2 hk3.1
    have hb3 : b3 = true ↔ c.inv[j]? = some true := by rw [hb3]; simp
    have c3 : (if c.inv[j]? = some true then 24 + 25 * x + 29 * rows else 0) = (if b3 = true then 24 + 25 * x + 29 * rows else 0) := by
      cases b3 with
      | true => rw [if_pos (hb3.1 rfl), if_pos rfl]
      | false => rw [if_neg (fun h => by have := hb3.2 h; cases this), if_neg (by simp)]
    -- what is behind the first flag
    have tail : ∀ (τ : Tau) (B : Int), τ 0 = v → τ 2 = .int .i64 rows → τ 6 = ptr0 id → τ 11 = .int .i64 (c.split.length : Nat) → τ 12 = .int .i64 (metrics cols j : Nat) → τ 13 = .int .i64 (cwrap .i64 (rows.tdiv 65536 + 1)) →
        τ 14 = .int .i64 (cwrap .i64 B) → B = A + (88 + 3 * rows) + (if b3 = true then 24 + 25 * x + 29 * rows else 0) → τ 15 = .int .i64 (j : Nat) → τ 16 = .int .i64 x → τ 60 = mv → τ 61 = .int .i64 (many.length : Nat) → τ 62 = .int .i64 (j : Nat) →
        wT E (ccall E I N (d + 1)) N (boundM hs') τ h3 (bT 1 (sT E (ccall E I N (d + 1)) N (.rg false [⟨(some 122), none, .p (.bin .add (.tmp 62) (.const (.int .i64 1)))⟩,
  ⟨(some 62), none, .p (.mv (.tmp 122))⟩]) (lT (BndI cols c rows many texts v mv iv rv sv id h) (many.length - j) Q))) := by
      intro τ B t0 t2 t6 t11 t12 t13 t14 hB t15 t16 t60 t61 t62
      simp [boundM, t6, t15, ptr0, l2 _ hg3]
      refine eT_call (has_ok (d := d) hhs (i := (j : Nat)) hc.rng) fun v4 h4 ⟨b4, hv, hb4, hk4⟩ => ?_
      subst hv
      have hg4 := (hk4.2 _ hid3).trans hg3
      have hid4 := Nat.lt_of_lt_of_le hid3 hk4.1
      have hb4 : b4 = true ↔ c.rng[j]? = some true := by rw [hb4]; simp
      have hk5 := (hkk.trans hk3).trans hk4
      have fin : ∀ {τ : Tau} {Y : Int}, τ 0 = v → τ 2 = .int .i64 rows → τ 6 = ptr0 id → τ 11 = .int .i64 (c.split.length : Nat) → τ 12 = .int .i64 (metrics cols j : Nat) → τ 13 = .int .i64 (cwrap .i64 (rows.tdiv 65536 + 1)) →
          τ 14 = .int .i64 (cwrap .i64 Y) → Y = B + (if c.rng[j]? = some true then 24 + x * (16 + 8201 * (rows.tdiv 65536 + 1)) else 0) + (if c.sort = (j : Nat) then 24 + 4 * x else 0) → τ 60 = mv → τ 61 = .int .i64 (many.length : Nat) → τ 62 = .int .i64 ((j + 1 : Nat) : Int) →
          lT (BndI cols c rows many texts v mv iv rv sv id h) (many.length - j) Q .normal τ h4 := fun {τ Y} a0 a2 a6 a11 a12 a13 a14 hY a60 a61 a62 =>
        next a0 a2 a6 a11 (by rw [hm]; exact a12) a13 ⟨Y, a14, by rw [hY, hB]; unfold part; rw [if_pos hd, c3]; omega⟩ a60 a61 a62 hk5 hg4 hid4
      by_cases hsrt : c.sort = (j : Nat)
      · cases b4 with
        | true =>
          simp [t0, t2, t6, t11, t12, t13, t14, t15, t16, t60, t61, t62, ptr0, l0 _ hg4, hsrt, cw_add_l, cw_add_r, cw_mul_l, cw_mul_r, cw_cw]
          exact fin (by simp [t0]) (by simp [t2]) (by simp [t6, ptr0]) (by simp [t11]) (by simp [t12]) (by simp [t13]) (by simp; rfl) (by rw [if_pos (hb4.1 rfl), if_pos hsrt]) (by simp [t60]) (by simp [t61]) (by simp [hadd])
        | false =>
          simp [t0, t2, t6, t11, t12, t13, t14, t15, t16, t60, t61, t62, ptr0, l0 _ hg4, hsrt, cw_add_l, cw_add_r, cw_mul_l, cw_mul_r, cw_cw]
          exact fin (by simp [t0]) (by simp [t2]) (by simp [t6, ptr0]) (by simp [t11]) (by simp [t12]) (by simp [t13]) (by simp; rfl) (by rw [if_neg (fun h => by have := hb4.2 h; cases this), if_pos hsrt]; omega) (by simp [t60]) (by simp [t61]) (by simp [hadd])
      · cases b4 with
        | true =>
          simp [t0, t2, t6, t11, t12, t13, t14, t15, t16, t60, t61, t62, ptr0, l0 _ hg4, hsrt, cw_add_l, cw_add_r, cw_mul_l, cw_mul_r, cw_cw]
          exact fin (by simp [t0]) (by simp [t2]) (by simp [t6, ptr0]) (by simp [t11]) (by simp [t12]) (by simp [t13]) (by simp; rfl) (by rw [if_pos (hb4.1 rfl), if_neg hsrt]; omega) (by simp [t60]) (by simp [t61]) (by simp [hadd])
        | false =>
          simp [t0, t2, t6, t11, t12, t13, t14, t15, t16, t60, t61, t62, ptr0, l0 _ hg4, hsrt, cw_add_l, cw_add_r, cw_mul_l, cw_mul_r, cw_cw]
          exact fin (by simp [t0]) (by simp [t2]) (by simp [t6, ptr0]) (by simp [t11]) (by simp [t12]) (by simp [t13]) (by simp [t14]; rfl) (by rw [if_neg (fun h => by have := hb4.2 h; cases this), if_neg hsrt]; omega) (by simp [t60]) (by simp [t61]) (by simp [hadd])
    cases b3 with
    | true =>
      simp [t0, t2, t6, t11, t12, t13, t14, t15, t16, t60, t61, t62, cw_add_l, cw_add_r, cw_mul_l, cw_mul_r, cw_cw]
      exact tail _ _ (by simp [t0]) (by simp [t2]) (by simp [t6, ptr0]) (by simp [t11]) (by simp [t12]) (by simp [t13]) (by simp; rfl) (by simp) (by simp [t15]) (by simp [t16]) (by simp [t60]) (by simp [t61]) (by simp [t62])
    | false =>
      simp [t0, t2, t6, t11, t12, t13, t14, t15, t16, t60, t61, t62, cw_add_l, cw_add_r, cw_mul_l, cw_mul_r, cw_cw]
      exact tail _ _ (by simp [t0]) (by simp [t2]) (by simp [t6, ptr0]) (by simp [t11]) (by simp [t12]) (by simp [t13]) (by simp; rfl) (by simp) (by simp [t15]) (by simp [t16]) (by simp [t60]) (by simp [t61]) (by simp [t62])
theorem lVar_freshN {h : CH} {id n : Nat} {c : List Value} (hg : h.get id = some (fresh c)) (hn : c.length = n) : lVar E h (some n) (.pointer (some ⟨id, 0, some 0⟩)) = some (.agg ⟨c⟩) := by
  have hv : view (fresh c) 0 = some c := rfl
  simp only [lVar, cview, hg, hv, Option.map_some, List.drop_zero]
  rw [takeN_take (by omega), ← hn, List.take_length]; rfl
theorem boundB_ok {dm hs' : FuncId} (hdm : HasF E I dm dimF) (hhs : HasF E I hs' hasF) {d : Nat} {cols : List Col} {c : Conf} {rows texts : Int} {many : List Int} {v mv iv rv sv : Value} {id : Nat} {h H : CH} {τ : Tau}
    (hs : SlG E v cols.length 2 (colCells cols)) (hc : ConfC E c iv rv sv) (hmv : SlG E mv many.length 1 (many.map (.int .i64))) (hN : many.length < N) (hI : many.length ≤ maxI)
    (hft : FitsP cols c) (hr0 : 0 ≤ rows) (hr1 : rows ≤ 16777216) (hx0 : 0 ≤ texts) (hx1 : texts ≤ 1099511627776) (hlen : many.length = cols.length)
    (t0 : τ 0 = v) (t2 : τ 2 = .int .i64 rows) (t3 : τ 3 = mv) (t4 : τ 4 = .int .i64 texts) (t6 : τ 6 = ptr0 id) (hk : Keep h H) (hg : H.get id = some (fresh [.int .i64 c.sort, iv, rv, sv, .int .i64 c.leaf])) (hid : id < H.next) :
    wT E (ccall E I N (d + 1)) N (boundB dm hs') τ H (fT E [CRes.tmp 10] (IntR (BoundP cols c rows many texts) h)) := by
  have l3 : lVar E H none (.pointer (some ⟨id, 3, some 0⟩)) = some sv := lVar_fresh hg rfl
  obtain ⟨a, C, hvv⟩ := hs.form
  obtain ⟨a3, C3, hsv⟩ := hc.split.form
  obtain ⟨a4, C4, hmm⟩ := hmv.form
  rw [hsv] at l3
  have t0' := t0
  rw [hvv] at t0
  have t3' := t3
  rw [hmm] at t3
  have hq : pBin .quo (.int .i64 rows) (.int .i64 65536) = some (.int .i64 (cwrap .i64 (rows.tdiv 65536))) := pBin_quo (by decide)
  simp [boundB, t0, t2, t3, t4, t6, ptr0, l3, hq, cw_add_l, cw_add_r, cw_mul_l, cw_mul_r, cw_cw]
  refine wT_loop (BndI cols c rows many texts v mv iv rv sv id h) many.length hN ?_ ?_
  · exact ⟨0, by simp, by simp, by simp [t0, hvv], by simp [t2], by simp [t6, ptr0], by simp, by simp [metrics], by simp, by simp [parts], by simp [hmm], by simp, by simp, hk, hg, hid, fun i d hi => absurd hi (Nat.not_lt_zero _)⟩
  clear t0 t2 t3 t4 t6 t0' t3' hk hg hid l3
  rintro m τ h' ⟨j, rfl, hj, t0, t2, t6, t11, t12, t13, t14, t60, t61, t62, hk, hg, hid, hall⟩
  rcases Nat.lt_or_ge j many.length with hlt | hge
  · obtain ⟨b, o, C', cs, he, hgl, hp⟩ := hmv.get hlt
    have hl := fun h' => lVar_g1 (E := E) (h := h') hgl hp (k := j) (v := .int .i64 many[j]) (by simp [hlt])
    have hjx : many[j]? = some many[j] := List.getElem?_eq_getElem hlt
    generalize many[j] = x at *
    have t60' := t60
    rw [he] at t60
    have hno : ¬ (0 ≤ x ∧ x ≤ 16777216) → ¬ GoodP cols c rows many texts := fun hn hgd => hn (hgd.2.2.2.2.2.2 j x hlt hjx)
    by_cases k1 : x < 0
    · simp [t0, t2, t6, t60, t61, t62, hlt, pIaddr_mk hlt, hl, k1]
      exact ⟨_, rfl, ⟨fun hgd => absurd hgd (hno (by omega)), fun _ => rfl⟩, hk⟩
    · by_cases k2 : 16777216 < x
      · simp [t0, t2, t6, t60, t61, t62, hlt, pIaddr_mk hlt, hl, k1, k2]
        exact ⟨_, rfl, ⟨fun hgd => absurd hgd (hno (by omega)), fun _ => rfl⟩, hk⟩
      · simp [t60, t61, t62, hlt, pIaddr_mk hlt, hl, k1, k2]
        exact boundL_ok hdm hhs hs hc hI hlt hjx (by omega) (by simp [t0]) (by simp [t2]) (by simp [t6]) (by simp [t11]) (by simp [t12]) (by simp [t13]) (by simp [t14]) (by simp) (by simp) (by simp [t60, he]) (by simp [t61]) (by simp [t62]) hk hg hid hall
  · have hjl : ¬ j < many.length := by omega
    have hje : j = cols.length := by omega
    have hgood : GoodP cols c rows many texts := ⟨hft, hr0, hr1, hx0, hx1, hlen, fun i d hi hid => hall i d (by omega) hid⟩
    subst hje
    simp [t60, t61, t62, hjl]
    exact boundC_ok hk hgood (by simp [t2]) (by simp [t11]) (by simp [t12]) (by simp [t14])
theorem bound_ok {f ft dm hs' my fg hi nm fd ix fl xi : FuncId} (hf : HasF E I f (boundF ft dm hs')) (hft : HasF E I ft (fitsF my dm fg hi)) (hmy : HasF E I my (mayF nm fd)) (hnm : HasF E I nm isNameF) (hfd : HasF E I fd (findF ix fl)) (hix : HasF E I ix ixColF) (hfl : HasF E I fl findLF)
    (hdm : HasF E I dm dimF) (hfg : HasF E I fg (flaggedF dm)) (hhi : HasF E I hi (hasIntF xi)) (hxi : HasF E I xi ixIntF) (hhs : HasF E I hs' hasF) {d : Nat} {cols : List Col} {c : Conf} {rows texts : Int} {many : List Int} {v mv iv rv sv : Value} {h : CH}
    (hs : SlG E v cols.length 2 (colCells cols)) (hc : ConfC E c iv rv sv) (hmv : SlG E mv many.length 1 (many.map (.int .i64))) (hN : cols.length < N) (hI : cols.length ≤ maxI) (hnl : ∀ c ∈ cols, c.1.length < N)
    (hN1 : c.inv.length < N) (hI1 : c.inv.length ≤ maxI) (hN2 : c.rng.length < N) (hI2 : c.rng.length ≤ maxI) (hN3 : c.split.length < N) (hI3 : c.split.length ≤ maxI) (hN4 : many.length < N) (hI4 : many.length ≤ maxI) :
    Fc (ccall E I N (d + 6)) f [v, .agg ⟨[.int .i64 c.sort, iv, rv, sv, .int .i64 c.leaf]⟩, .int .i64 rows, mv, .int .i64 texts] h (IntR (BoundP cols c rows many texts) h) := by
  refine hf.body (by rfl) (by simp [boundF]) fun τ hτ => ?_
  have g0 : τ 0 = v := hτ 0 (by simp)
  have g1 : τ 1 = .agg ⟨[.int .i64 c.sort, iv, rv, sv, .int .i64 c.leaf]⟩ := hτ 1 (by simp)
  have g2 : τ 2 = .int .i64 rows := hτ 2 (by simp)
  have g3 : τ 3 = mv := hτ 3 (by simp)
  have g4 : τ 4 = .int .i64 texts := hτ 4 (by simp)
  have lN : lVar E (h.add (fresh [.int .i64 c.sort, iv, rv, sv, .int .i64 c.leaf])) (some 5) (.pointer (some ⟨h.next, 0, some 0⟩)) = some (.agg ⟨[.int .i64 c.sort, iv, rv, sv, .int .i64 c.leaf]⟩) := lVar_freshN get_new rfl
  simp [boundF, g0, g1, nBox, cells, ptr0, lN]
  refine eT_call (fits_ok (d := d) hft hmy hnm hfd hix hfl hdm hfg hhi hxi hs hc hN hI hnl hN1 hI1 hN2 hI2 hN3 hI3) fun v2 h2 ⟨bb, hv, hb, hk2⟩ => ?_
  subst hv
  have hk := (Keep.add h (fresh [.int .i64 c.sort, iv, rv, sv, .int .i64 c.leaf])).trans hk2
  have hg2 := (hk2.2 h.next (by simp)).trans get_new
  have hid2 : h.next < h2.next := Nat.lt_of_lt_of_le (by simp) hk2.1
  obtain ⟨a, C, hvv⟩ := hs.form
  obtain ⟨a4, C4, hmm⟩ := hmv.form
  have g0' := g0
  have g3' := g3
  rw [hvv] at g0'
  rw [hmm] at g3'
  cases bb with
  | false =>
    simp [g0, g2, g3, g4]
    exact ⟨_, rfl, ⟨fun hgd => (by have := hb.2 hgd.1; cases this), fun _ => rfl⟩, hk⟩
  | true =>
    by_cases k1 : rows < 0
    · simp [g0, g2, g3, g4, k1]
      exact ⟨_, rfl, ⟨fun hgd => (by have := hgd.2.1; omega), fun _ => rfl⟩, hk⟩
    · by_cases k2 : 16777216 < rows
      · simp [g0, g2, g3, g4, k1, k2]
        exact ⟨_, rfl, ⟨fun hgd => (by have := hgd.2.2.1; omega), fun _ => rfl⟩, hk⟩
      · by_cases k3 : texts < 0
        · simp [g0, g2, g3, g4, k1, k2, k3]
          exact ⟨_, rfl, ⟨fun hgd => (by have := hgd.2.2.2.1; omega), fun _ => rfl⟩, hk⟩
        · by_cases k4 : 1099511627776 < texts
          · simp [g0, g2, g3, g4, k1, k2, k3, k4]
            exact ⟨_, rfl, ⟨fun hgd => (by have := hgd.2.2.2.2.1; omega), fun _ => rfl⟩, hk⟩
          · by_cases k5 : ((many.length : Nat) : Int) = (cols.length : Nat)
            · simp [g0', g2, g3', g4, k1, k2, k3, k4, k5]
              exact boundB_ok hdm hhs hs hc hmv hN4 hI4 (hb.1 rfl) (by omega) (by omega) (by omega) (by omega) (by omega) (by simp [g0]) (by simp [g2]) (by simp [g3]) (by simp [g4]) (by simp [ptr0]) hk hg2 hid2
            · simp [g0', g2, g3', g4, k1, k2, k3, k4, k5]
              exact ⟨_, rfl, ⟨fun hgd => (by have := hgd.2.2.2.2.2.1; omega), fun _ => rfl⟩, hk⟩
/-! ### the reference's rounds -/
def BndJ (cols : List Col) (c : Conf) (rows : Int) (many : List Int) (texts : Int) (v mv iv rv sv : Value) (id : Nat) (h : CH) (m : Nat) (τ : Tau) (h' : CH) : Prop := ∃ j : Nat, m = cols.length - j ∧ j ≤ cols.length ∧ τ 0 = v ∧ τ 2 = .int .i64 rows ∧ τ 3 = mv ∧ τ 4 = .int .i64 texts ∧ τ 6 = ptr0 id ∧ τ 12 = .int .i64 (c.split.length : Nat) ∧
  τ 14 = .int .i64 (metrics cols j : Nat) ∧ τ 13 = .int .i64 (cwrap .i64 (102 + 69 * (cols.length : Nat) + 2 * (c.split.length : Nat) + 29 + parts cols c rows many j)) ∧ τ 15 = .int .i64 (j : Nat) ∧ Keep h h' ∧ h'.get id = some (fresh [.int .i64 c.sort, iv, rv, sv, .int .i64 c.leaf]) ∧ id < h'.next
theorem rBoundL_ok {hs' : FuncId} (hhs : HasF E I hs' hasF) {d : Nat} {cols : List Col} {c : Conf} {rows texts : Int} {many : List Int} {v mv iv rv sv : Value} {id j : Nat} {h h' : CH} {τ : Tau}
    (hs : SlG E v cols.length 2 (colCells cols)) (hc : ConfC E c iv rv sv) (hmv : SlG E mv many.length 1 (many.map (.int .i64))) (hI : cols.length ≤ maxI) (hlt : j < cols.length) (hlen : many.length = cols.length) (hmay : MayP cols)
    (t0 : τ 0 = v) (t2 : τ 2 = .int .i64 rows) (t3 : τ 3 = mv) (t4 : τ 4 = .int .i64 texts) (t6 : τ 6 = ptr0 id) (t12 : τ 12 = .int .i64 (c.split.length : Nat)) (t14 : τ 14 = .int .i64 (metrics cols j : Nat))
    (t13 : τ 13 = .int .i64 (cwrap .i64 (102 + 69 * (cols.length : Nat) + 2 * (c.split.length : Nat) + 29 + parts cols c rows many j))) (t15 : τ 15 = .int .i64 (j : Nat))
    (hk : Keep h h') (hg : h'.get id = some (fresh [.int .i64 c.sort, iv, rv, sv, .int .i64 c.leaf])) (hid : id < h'.next) {Q : Post3} :
    wT E (ccall E I N (d + 1)) N (rBoundL hs') τ h' (bT 3 (sT E (ccall E I N (d + 1)) N (.rg false [⟨(some 77), none, .p (.mv (.tmp 15))⟩,
  ⟨(some 78), none, .p (.bin .add (.tmp 77) (.const (.int .i64 1)))⟩,
  ⟨(some 15), none, .p (.mv (.tmp 78))⟩]) (lT (BndJ cols c rows many texts v mv iv rv sv id h) (cols.length - j) Q))) := by
  have l0 : ∀ H2, H2.get id = some (fresh [.int .i64 c.sort, iv, rv, sv, .int .i64 c.leaf]) → lVar E H2 none (.pointer (some ⟨id, 0, some 0⟩)) = some (.int .i64 c.sort) := fun H2 hg => lVar_fresh hg rfl
  have l1 : ∀ H2, H2.get id = some (fresh [.int .i64 c.sort, iv, rv, sv, .int .i64 c.leaf]) → lVar E H2 none (.pointer (some ⟨id, 1, some 0⟩)) = some iv := fun H2 hg => lVar_fresh hg rfl
  have l2 : ∀ H2, H2.get id = some (fresh [.int .i64 c.sort, iv, rv, sv, .int .i64 c.leaf]) → lVar E H2 none (.pointer (some ⟨id, 2, some 0⟩)) = some rv := fun H2 hg => lVar_fresh hg rfl
  have hadd : cwrap .i64 ((j : Int) + 1) = ((j + 1 : Nat) : Int) := by rw [wrap_i64] <;> unfold maxI at hI <;> omega
  obtain ⟨b, o, C, cs, he, hgl, hp⟩ := hs.get hlt
  obtain ⟨b2, o2, C2, cs2, he2, hgl2, hp2⟩ := hmv.get (j := j) (by omega)
  have hcj : cols[j]? = some cols[j] := List.getElem?_eq_getElem hlt
  have hl1 : ∀ h', lVar E h' none (.pointer (some ⟨b, o + j * 2 + 1, none⟩)) = some (.int .u8 (cols[j].2 : Nat)) := fun h' => by rw [Nat.add_assoc]; exact lVar_g1 hgl hp (colCells_name hcj).2
  have hkind := hmay.1 j _ hcj
  have hlm : j < many.length := by omega
  have hlx := fun h' => lVar_g1 (E := E) (h := h') hgl2 hp2 (k := j) (v := .int .i64 many[j]) (by simp [hlm])
  have hjx : many[j]? = some many[j] := List.getElem?_eq_getElem hlm
  have hpx := pIaddr_mk (sz := 1) (b := b2) (o := o2) (C := C2) (t := none) (k := .i64) hlm
  rw [Nat.mul_one] at hpx
  have hdim : DimP cols (j : Nat) ↔ ¬ ((cols[j].2 : Nat) : Int) = 3 := by
    unfold DimP
    constructor
    · rintro ⟨_, c', hc', hk'⟩
      have hc' : cols[j]? = some c' := by simpa using hc'
      rw [hcj] at hc'
      injection hc' with hc'
      subst hc'
      omega
    · intro h3
      refine ⟨by omega, cols[j], ?_, by omega⟩
      rw [Int.toNat_natCast]; exact hcj
  generalize cols[j] = cj at *
  generalize many[j] = x at *
  have hpart : parts cols c rows many (j + 1) = parts cols c rows many j + part cols c rows j x := by simp only [parts, hjx, Option.getD_some]
  have next : ∀ {τ : Tau} {h2 : CH}, τ 0 = v → τ 2 = .int .i64 rows → τ 3 = mv → τ 4 = .int .i64 texts → τ 6 = ptr0 id → τ 12 = .int .i64 (c.split.length : Nat) → τ 14 = .int .i64 (metrics cols (j + 1) : Nat) →
      (∃ Y, τ 13 = .int .i64 (cwrap .i64 Y) ∧ Y = 102 + 69 * ((cols.length : Nat) : Int) + 2 * ((c.split.length : Nat) : Int) + 29 + parts cols c rows many j + part cols c rows j x) → τ 15 = .int .i64 ((j + 1 : Nat) : Int) → Keep h h2 → h2.get id = some (fresh [.int .i64 c.sort, iv, rv, sv, .int .i64 c.leaf]) → id < h2.next →
      lT (BndJ cols c rows many texts v mv iv rv sv id h) (cols.length - j) Q .normal τ h2 := by
    intro τ h2 a0 a2 a3 a4 a6 a12 a14 ⟨Y, a13, hY⟩ a15 hk hg hid
    refine lT_mk (cols.length - (j + 1)) (by omega) ⟨j + 1, rfl, hlt, a0, a2, a3, a4, a6, a12, a14, ?_, a15, hk, hg, hid⟩
    rw [a13, hpart, hY]
    congr 2
    omega
  generalize hA : (102 + 69 * ((cols.length : Nat) : Int) + 2 * ((c.split.length : Nat) : Int) + 29 + parts cols c rows many j) = A at *
  have t0' := t0
  have t3' := t3
  rw [he] at t0'
  rw [he2] at t3'
  have hq : pBin .quo (.int .i64 rows) (.int .i64 65536) = some (.int .i64 (cwrap .i64 (rows.tdiv 65536))) := pBin_quo (by decide)
  by_cases h3 : ((cj.2 : Nat) : Int) = 3
  · have hnd : ¬ DimP cols (j : Nat) := fun h => hdim.1 h h3
    have hm : metrics cols (j + 1) = metrics cols j + 1 := by simp only [metrics, if_neg hnd]
    have hmw : cwrap .i64 (((metrics cols j : Nat) : Int) + 1) = ((metrics cols j + 1 : Nat) : Int) := by
      have := metrics_le cols j
      rw [wrap_i64] <;> unfold maxI at hI <;> omega
    simp [rBoundL, t0', t2, t3, t4, t6, t12, t13, t14, t15, pIaddr_mk hlt, hl1, h3, cw_add_l, cw_add_r, cw_mul_l, cw_mul_r, cw_cw]
    exact next (by simp [t0]) (by simp [t2]) (by simp [t3]) (by simp [t4]) (by simp [t6]) (by simp [t12]) (by simp [hm, hmw]) ⟨_, by simp; rfl, by unfold part; rw [if_neg hnd]; omega⟩ (by simp [hadd]) hk hg hid
  · have hd := hdim.2 h3
    have hm : metrics cols (j + 1) = metrics cols j := by simp only [metrics, if_pos hd, Nat.add_zero]
    simp [rBoundL, t0', t2, t3, t4, t6, t12, t13, t14, t15, ptr0, l1 _ hg, pIaddr_mk hlt, hl1, h3, cw_add_l, cw_add_r, cw_mul_l, cw_mul_r, cw_cw]
    refine eT_call (has_ok (d := d) hhs (i := (j : Nat)) hc.inv) fun v3 h3 ⟨b3, hv, hb3, hk3⟩ => ?_
    subst hv
    have hg3 := (hk3.2 _ hid).trans hg
    have hid3 := Nat.lt_of_lt_of_le hid hk3.1
    have hb3 : b3 = true ↔ c.inv[j]? = some true := by rw [hb3]; simp
    have c3 : (if c.inv[j]? = some true then 24 + 25 * x + 29 * rows else 0) = (if b3 = true then 24 + 25 * x + 29 * rows else 0) := by
      cases b3 with
      | true => rw [if_pos (hb3.1 rfl), if_pos rfl]
      | false => rw [if_neg (fun h => by have := hb3.2 h; cases this), if_neg (by simp)]
    have tail : ∀ (τ : Tau) (B : Int), τ 0 = v → τ 2 = .int .i64 rows → τ 3 = mv → τ 4 = .int .i64 texts → τ 6 = ptr0 id → τ 12 = .int .i64 (c.split.length : Nat) → τ 14 = .int .i64 (metrics cols j : Nat) →
        τ 13 = .int .i64 (cwrap .i64 B) → B = A + (88 + 3 * rows) + (if b3 = true then 24 + 25 * x + 29 * rows else 0) → τ 15 = .int .i64 (j : Nat) →
        wT E (ccall E I N (d + 1)) N (rBoundM hs') τ h3 (bT 3 (sT E (ccall E I N (d + 1)) N (.rg false [⟨(some 77), none, .p (.mv (.tmp 15))⟩,
  ⟨(some 78), none, .p (.bin .add (.tmp 77) (.const (.int .i64 1)))⟩,
  ⟨(some 15), none, .p (.mv (.tmp 78))⟩]) (lT (BndJ cols c rows many texts v mv iv rv sv id h) (cols.length - j) Q))) := by
      intro τ B t0 t2 t3 t4 t6 t12 t14 t13 hB t15
      have t3' := t3
      rw [he2] at t3'
      simp [rBoundM, t6, t15, ptr0, l2 _ hg3]
      refine eT_call (has_ok (d := d) hhs (i := (j : Nat)) hc.rng) fun v4 h4 ⟨b4, hv, hb4, hk4⟩ => ?_
      subst hv
      have hg4 := (hk4.2 _ hid3).trans hg3
      have hid4 := Nat.lt_of_lt_of_le hid3 hk4.1
      have hb4 : b4 = true ↔ c.rng[j]? = some true := by rw [hb4]; simp
      have hk5 := (hk.trans hk3).trans hk4
      have fin : ∀ {τ : Tau} {Y : Int}, τ 0 = v → τ 2 = .int .i64 rows → τ 3 = mv → τ 4 = .int .i64 texts → τ 6 = ptr0 id → τ 12 = .int .i64 (c.split.length : Nat) → τ 14 = .int .i64 (metrics cols j : Nat) →
          τ 13 = .int .i64 (cwrap .i64 Y) → Y = B + (if c.rng[j]? = some true then 24 + x * (16 + 8201 * (rows.tdiv 65536 + 1)) else 0) + (if c.sort = (j : Nat) then 24 + 4 * x else 0) → τ 15 = .int .i64 ((j + 1 : Nat) : Int) →
          lT (BndJ cols c rows many texts v mv iv rv sv id h) (cols.length - j) Q .normal τ h4 := fun {τ Y} a0 a2 a3 a4 a6 a12 a14 a13 hY a15 =>
        next a0 a2 a3 a4 a6 a12 (by rw [hm]; exact a14) ⟨Y, a13, by rw [hY, hB]; unfold part; rw [if_pos hd, c3]; omega⟩ a15 hk5 hg4 hid4
      by_cases hsrt : c.sort = (j : Nat)
      · cases b4 with
        | true =>
          simp [t0, t2, t3', t4, t6, t12, t13, t14, t15, ptr0, l0 _ hg4, hsrt, hpx, hlx, hq, cw_add_l, cw_add_r, cw_mul_l, cw_mul_r, cw_cw]
          exact fin (by simp [t0]) (by simp [t2]) (by simp [t3]) (by simp [t4]) (by simp [t6, ptr0]) (by simp [t12]) (by simp [t14]) (by simp; rfl) (by rw [if_pos (hb4.1 rfl), if_pos hsrt]; omega) (by simp [hadd])
        | false =>
          simp [t0, t2, t3', t4, t6, t12, t13, t14, t15, ptr0, l0 _ hg4, hsrt, hpx, hlx, hq, cw_add_l, cw_add_r, cw_mul_l, cw_mul_r, cw_cw]
          exact fin (by simp [t0]) (by simp [t2]) (by simp [t3]) (by simp [t4]) (by simp [t6, ptr0]) (by simp [t12]) (by simp [t14]) (by simp; rfl) (by rw [if_neg (fun h => by have := hb4.2 h; cases this), if_pos hsrt]; omega) (by simp [hadd])
      · cases b4 with
        | true =>
          simp [t0, t2, t3', t4, t6, t12, t13, t14, t15, ptr0, l0 _ hg4, hsrt, hpx, hlx, hq, cw_add_l, cw_add_r, cw_mul_l, cw_mul_r, cw_cw]
          exact fin (by simp [t0]) (by simp [t2]) (by simp [t3]) (by simp [t4]) (by simp [t6, ptr0]) (by simp [t12]) (by simp [t14]) (by simp; rfl) (by rw [if_pos (hb4.1 rfl), if_neg hsrt]; omega) (by simp [hadd])
        | false =>
          simp [t0, t2, t3', t4, t6, t12, t13, t14, t15, ptr0, l0 _ hg4, hsrt, hpx, hlx, hq, cw_add_l, cw_add_r, cw_mul_l, cw_mul_r, cw_cw]
          exact fin (by simp [t0]) (by simp [t2]) (by simp [t3]) (by simp [t4]) (by simp [t6, ptr0]) (by simp [t12]) (by simp [t14]) (by simp [t13]; rfl) (by rw [if_neg (fun h => by have := hb4.2 h; cases this), if_neg hsrt]; omega) (by simp [hadd])
    cases b3 with
    | true =>
      simp [t0, t2, t3', t4, t6, t12, t13, t14, t15, hpx, hlx, cw_add_l, cw_add_r, cw_mul_l, cw_mul_r, cw_cw]
      exact tail _ _ (by simp [t0]) (by simp [t2]) (by simp [t3]) (by simp [t4]) (by simp [t6, ptr0]) (by simp [t12]) (by simp [t14]) (by simp; rfl) (by simp; omega) (by simp [t15])
    | false =>
      simp [t0, t2, t3', t4, t6, t12, t13, t14, t15, cw_add_l, cw_add_r, cw_mul_l, cw_mul_r, cw_cw]
      exact tail _ _ (by simp [t0]) (by simp [t2]) (by simp [t3]) (by simp [t4]) (by simp [t6, ptr0]) (by simp [t12]) (by simp [t14]) (by simp; rfl) (by simp; omega) (by simp [t15])
theorem rBoundC_ok {hs' : FuncId} (hhs : HasF E I hs' hasF) {d : Nat} {cols : List Col} {c : Conf} {rows texts : Int} {many : List Int} {v mv iv rv sv : Value} {id : Nat} {h H : CH} {τ : Tau}
    (hs : SlG E v cols.length 2 (colCells cols)) (hc : ConfC E c iv rv sv) (hmv : SlG E mv many.length 1 (many.map (.int .i64))) (hN : cols.length < N) (hI : cols.length ≤ maxI) (hgood : GoodP cols c rows many texts)
    (t0 : τ 0 = v) (t2 : τ 2 = .int .i64 rows) (t3 : τ 3 = mv) (t4 : τ 4 = .int .i64 texts) (t6 : τ 6 = ptr0 id) (hk : Keep h H) (hg : H.get id = some (fresh [.int .i64 c.sort, iv, rv, sv, .int .i64 c.leaf])) (hid : id < H.next) :
    wT E (ccall E I N (d + 1)) N (rBoundC hs') τ H (fT E [CRes.tmp 10] (IntR (BoundP cols c rows many texts) h)) := by
  have l3 : lVar E H none (.pointer (some ⟨id, 3, some 0⟩)) = some sv := lVar_fresh hg rfl
  obtain ⟨a, C, hvv⟩ := hs.form
  obtain ⟨a3, C3, hsv⟩ := hc.split.form
  rw [hsv] at l3
  have t0' := t0
  rw [hvv] at t0'
  simp [rBoundC, t0', t2, t3, t4, t6, ptr0, l3, cw_add_l, cw_add_r, cw_mul_l, cw_mul_r, cw_cw]
  refine wT_loop (BndJ cols c rows many texts v mv iv rv sv id h) cols.length hN ?_ ?_
  · exact ⟨0, by simp, by simp, by simp [t0], by simp [t2], by simp [t3], by simp [t4], by simp [t6, ptr0], by simp, by simp [metrics], by simp [parts], by simp, hk, hg, hid⟩
  clear t0 t2 t3 t4 t6 t0' hk hg hid l3
  rintro m τ h' ⟨j, rfl, hj, t0, t2, t3, t4, t6, t12, t14, t13, t15, hk, hg, hid⟩
  have t0' := t0
  rw [hvv] at t0'
  rcases Nat.lt_or_ge j cols.length with hlt | hge
  · simp [t0', t15, hlt]
    exact rBoundL_ok hhs hs hc hmv hI hlt hgood.2.2.2.2.2.1 hgood.1.1 (by simp [t0]) (by simp [t2]) (by simp [t3]) (by simp [t4]) (by simp [t6]) (by simp [t12]) (by simp [t14]) (by simp [t13]) (by simp [t15]) hk hg hid
  · have hjl : ¬ j < cols.length := by omega
    obtain rfl : j = cols.length := by omega
    simp [t0', t15]
    exact rBoundD_ok hk hgood (by simp [t2]) (by simp [t4]) (by simp [t12]) (by simp [t14]) (by simp [t13])
def BndB (rows : Int) (many : List Int) (texts : Int) (v mv : Value) (c : Conf) (iv rv sv : Value) (id : Nat) (h : CH) (m : Nat) (τ : Tau) (h' : CH) : Prop := ∃ j : Nat, m = many.length - j ∧ j ≤ many.length ∧ τ 0 = v ∧ τ 2 = .int .i64 rows ∧ τ 3 = mv ∧ τ 4 = .int .i64 texts ∧ τ 6 = ptr0 id ∧ τ 11 = .int .i64 (j : Nat) ∧ Keep h h' ∧
  h'.get id = some (fresh [.int .i64 c.sort, iv, rv, sv, .int .i64 c.leaf]) ∧ id < h'.next ∧ goodM many j
theorem rBoundB_ok {hs' : FuncId} (hhs : HasF E I hs' hasF) {d : Nat} {cols : List Col} {c : Conf} {rows texts : Int} {many : List Int} {v mv iv rv sv : Value} {id : Nat} {h H : CH} {τ : Tau}
    (hs : SlG E v cols.length 2 (colCells cols)) (hc : ConfC E c iv rv sv) (hmv : SlG E mv many.length 1 (many.map (.int .i64))) (hN : cols.length < N) (hI : cols.length ≤ maxI) (hN4 : many.length < N) (hI4 : many.length ≤ maxI)
    (hft : FitsP cols c) (hr0 : 0 ≤ rows) (hr1 : rows ≤ 16777216) (hx0 : 0 ≤ texts) (hx1 : texts ≤ 1099511627776) (hlen : many.length = cols.length)
    (t0 : τ 0 = v) (t2 : τ 2 = .int .i64 rows) (t3 : τ 3 = mv) (t4 : τ 4 = .int .i64 texts) (t6 : τ 6 = ptr0 id) (hk : Keep h H) (hg : H.get id = some (fresh [.int .i64 c.sort, iv, rv, sv, .int .i64 c.leaf])) (hid : id < H.next) :
    wT E (ccall E I N (d + 1)) N (rBoundB hs') τ H (fT E [CRes.tmp 10] (IntR (BoundP cols c rows many texts) h)) := by
  simp [rBoundB]
  refine wT_loop (BndB rows many texts v mv c iv rv sv id h) many.length hN4 ?_ ?_
  · exact ⟨0, by simp, by simp, by simp [t0], by simp [t2], by simp [t3], by simp [t4], by simp [t6], by simp, hk, hg, hid, fun i d hi => absurd hi (Nat.not_lt_zero _)⟩
  clear t0 t2 t3 t4 t6 hk hg hid
  rintro m τ h' ⟨j, rfl, hj, t0, t2, t3, t4, t6, t11, hk, hg, hid, hall⟩
  obtain ⟨a4, C4, hmm⟩ := hmv.form
  have t3' := t3
  rw [hmm] at t3'
  rcases Nat.lt_or_ge j many.length with hlt | hge
  · obtain ⟨b, o, C', cs, he, hgl, hp⟩ := hmv.get hlt
    have hl := fun h' => lVar_g1 (E := E) (h := h') hgl hp (k := j) (v := .int .i64 many[j]) (by simp [hlt])
    have hjx : many[j]? = some many[j] := List.getElem?_eq_getElem hlt
    have hadd : cwrap .i64 ((j : Int) + 1) = ((j + 1 : Nat) : Int) := by rw [wrap_i64] <;> unfold maxI at hI4 <;> omega
    generalize many[j] = x at *
    have t3'' := t3
    rw [he] at t3''
    have hno : ¬ (0 ≤ x ∧ x ≤ 16777216) → ¬ GoodP cols c rows many texts := fun hn hgd => hn (hgd.2.2.2.2.2.2 j x hlt hjx)
    by_cases k1 : x < 0
    · simp [t0, t2, t3'', t11, hlt, pIaddr_mk hlt, hl, k1]
      exact ⟨_, rfl, ⟨fun hgd => absurd hgd (hno (by omega)), fun _ => rfl⟩, hk⟩
    · by_cases k2 : 16777216 < x
      · simp [t0, t2, t3'', t11, hlt, pIaddr_mk hlt, hl, k1, k2]
        exact ⟨_, rfl, ⟨fun hgd => absurd hgd (hno (by omega)), fun _ => rfl⟩, hk⟩
      · simp [t0, t2, t3'', t11, hlt, pIaddr_mk hlt, hl, k1, k2]
        refine lT_mk (many.length - (j + 1)) (by omega) ⟨j + 1, rfl, hlt, by simp [t0], by simp [t2], by simp [t3], by simp [t4], by simp [t6], by simp [hadd], hk, hg, hid, fun i y hi hiy => ?_⟩
        rcases Nat.lt_succ_iff_lt_or_eq.1 hi with h1 | rfl
        · exact hall i y h1 hiy
        · rw [hjx] at hiy
          injection hiy with hiy
          subst hiy
          omega
  · have hjl : ¬ j < many.length := by omega
    have hgood : GoodP cols c rows many texts := ⟨hft, hr0, hr1, hx0, hx1, hlen, fun i d hi hid => hall i d (by omega) hid⟩
    simp [t3', t11, hjl]
    exact rBoundC_ok hhs hs hc hmv hN hI hgood (by simp [t0]) (by simp [t2]) (by simp [t3]) (by simp [t4]) (by simp [t6]) hk hg hid
theorem rBound_ok {f ft my nm dm hs' : FuncId} (hf : HasF E I f (rBoundF ft hs')) (hft : HasF E I ft (rFitsF my dm hs')) (hmy : HasF E I my (rMayF nm)) (hnm : HasF E I nm rNameF) (hdm : HasF E I dm dimF) (hhs : HasF E I hs' hasF) {d : Nat} {cols : List Col} {c : Conf} {rows texts : Int} {many : List Int} {v mv iv rv sv : Value} {h : CH}
    (hs : SlG E v cols.length 2 (colCells cols)) (hc : ConfC E c iv rv sv) (hmv : SlG E mv many.length 1 (many.map (.int .i64))) (hN : cols.length < N) (hI : cols.length ≤ maxI) (hnl : ∀ c ∈ cols, c.1.length < N) (hni : ∀ c ∈ cols, c.1.length ≤ maxI)
    (hN3 : c.split.length < N) (hI3 : c.split.length ≤ maxI) (hN4 : many.length < N) (hI4 : many.length ≤ maxI) :
    Fc (ccall E I N (d + 4)) f [v, .agg ⟨[.int .i64 c.sort, iv, rv, sv, .int .i64 c.leaf]⟩, .int .i64 rows, mv, .int .i64 texts] h (IntR (BoundP cols c rows many texts) h) := by
  refine hf.body (by rfl) (by simp [rBoundF]) fun τ hτ => ?_
  have g0 : τ 0 = v := hτ 0 (by simp)
  have g1 : τ 1 = .agg ⟨[.int .i64 c.sort, iv, rv, sv, .int .i64 c.leaf]⟩ := hτ 1 (by simp)
  have g2 : τ 2 = .int .i64 rows := hτ 2 (by simp)
  have g3 : τ 3 = mv := hτ 3 (by simp)
  have g4 : τ 4 = .int .i64 texts := hτ 4 (by simp)
  have lN : lVar E (h.add (fresh [.int .i64 c.sort, iv, rv, sv, .int .i64 c.leaf])) (some 5) (.pointer (some ⟨h.next, 0, some 0⟩)) = some (.agg ⟨[.int .i64 c.sort, iv, rv, sv, .int .i64 c.leaf]⟩) := lVar_freshN get_new rfl
  simp [rBoundF, g0, g1, nBox, cells, ptr0, lN]
  refine eT_call (rFits_ok (d := d) hft hmy hnm hdm hhs hs hc hN hI hnl hni hN3 hI3) fun v2 h2 ⟨bb, hv, hb, hk2⟩ => ?_
  subst hv
  have hk := (Keep.add h (fresh [.int .i64 c.sort, iv, rv, sv, .int .i64 c.leaf])).trans hk2
  have hg2 := (hk2.2 h.next (by simp)).trans get_new
  have hid2 : h.next < h2.next := Nat.lt_of_lt_of_le (by simp) hk2.1
  obtain ⟨a, C, hvv⟩ := hs.form
  obtain ⟨a4, C4, hmm⟩ := hmv.form
  have g0' := g0
  have g3' := g3
  rw [hvv] at g0'
  rw [hmm] at g3'
  cases bb with
  | false =>
    simp [g0, g2, g3, g4]
    exact ⟨_, rfl, ⟨fun hgd => (by have := hb.2 hgd.1; cases this), fun _ => rfl⟩, hk⟩
  | true =>
    by_cases k1 : rows < 0
    · simp [g0, g2, g3, g4, k1]
      exact ⟨_, rfl, ⟨fun hgd => (by have := hgd.2.1; omega), fun _ => rfl⟩, hk⟩
    · by_cases k2 : 16777216 < rows
      · simp [g0, g2, g3, g4, k1, k2]
        exact ⟨_, rfl, ⟨fun hgd => (by have := hgd.2.2.1; omega), fun _ => rfl⟩, hk⟩
      · by_cases k3 : texts < 0
        · simp [g0, g2, g3, g4, k1, k2, k3]
          exact ⟨_, rfl, ⟨fun hgd => (by have := hgd.2.2.2.1; omega), fun _ => rfl⟩, hk⟩
        · by_cases k4 : 1099511627776 < texts
          · simp [g0, g2, g3, g4, k1, k2, k3, k4]
            exact ⟨_, rfl, ⟨fun hgd => (by have := hgd.2.2.2.2.1; omega), fun _ => rfl⟩, hk⟩
          · by_cases k5 : ((many.length : Nat) : Int) = (cols.length : Nat)
            · simp [g0', g2, g3', g4, k1, k2, k3, k4, k5]
              exact rBoundB_ok hhs hs hc hmv hN hI hN4 hI4 (hb.1 rfl) (by omega) (by omega) (by omega) (by omega) (by omega) (by simp [g0]) (by simp [g2]) (by simp [g3]) (by simp [g4]) (by simp [ptr0]) hk hg2 hid2
            · simp [g0', g2, g3', g4, k1, k2, k3, k4, k5]
              exact ⟨_, rfl, ⟨fun hgd => (by have := hgd.2.2.2.2.2.1; omega), fun _ => rfl⟩, hk⟩
end Go.Cl
