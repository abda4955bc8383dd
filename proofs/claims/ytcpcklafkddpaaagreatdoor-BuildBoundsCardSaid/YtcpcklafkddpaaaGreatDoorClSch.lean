/- Layer 17's functions: what they answer. -/
import Derived.Test.YtcpcklafkddpaaaGreatDoorClTau
namespace Go.Cl
open Go
set_option linter.unusedSimpArgs false
set_option linter.unusedVariables false
set_option maxRecDepth 4000
variable {E : Env} {I : CallF → CallF} {N : Nat}

/-! ### the code -/
/-- isinglass/schema.isName -/
def isNameF : CFun := ⟨36,
  (.seq (.rg false [⟨(some 2), none, .p (.mv (.const (.bool false)))⟩]) (.seq (.seq (.rg false [⟨(some 5), none, .p (.mv (.tmp 0))⟩,
  ⟨(some 6), none, .n (.iter (.tmp 5))⟩]) (.block 0 (.loop (.seq (.rg false [⟨(some 7), none, .e true (.next (.tmp 6))⟩,
  ⟨(some 8), none, .p (.ext (.tmp 7) 0)⟩]) (.seq (.cond (.tmp 8) .skip (.exit 0)) (.block 1 (.seq (.rg false [⟨(some 9), none, .p (.ext (.tmp 7) 2)⟩,
  ⟨(some 4), none, .p (.mv (.tmp 9))⟩]) (.seq (.rg false [⟨(some 10), none, .p (.mv (.tmp 4))⟩,
  ⟨(some 11), none, .p (.bin .lss (.tmp 10) (.const (.int .i32 97)))⟩,
  ⟨(some 12), none, .p (.mv (.tmp 11))⟩,
  ⟨(some 13), (some (12, false)), .p (.mv (.tmp 4))⟩,
  ⟨(some 14), (some (12, false)), .p (.bin .gtr (.tmp 13) (.const (.int .i32 122)))⟩,
  ⟨(some 15), none, .p (.pick (.tmp 12) (.const (.bool true)) (.tmp 14))⟩,
  ⟨(some 16), none, .p (.mv (.tmp 15))⟩,
  ⟨(some 17), (some (16, true)), .p (.mv (.tmp 4))⟩,
  ⟨(some 18), (some (16, true)), .p (.bin .lss (.tmp 17) (.const (.int .i32 48)))⟩,
  ⟨(some 19), (some (16, true)), .p (.mv (.tmp 18))⟩,
  ⟨(some 20), (some (19, false)), .p (.mv (.tmp 4))⟩,
  ⟨(some 21), (some (19, false)), .p (.bin .gtr (.tmp 20) (.const (.int .i32 57)))⟩,
  ⟨(some 22), (some (16, true)), .p (.pick (.tmp 19) (.const (.bool true)) (.tmp 21))⟩,
  ⟨(some 23), none, .p (.pick (.tmp 16) (.tmp 22) (.const (.bool false)))⟩,
  ⟨(some 24), none, .p (.mv (.tmp 23))⟩,
  ⟨(some 25), (some (24, true)), .p (.mv (.tmp 4))⟩,
  ⟨(some 26), (some (24, true)), .p (.bin .neq (.tmp 25) (.const (.int .i32 95)))⟩,
  ⟨(some 27), none, .p (.pick (.tmp 24) (.tmp 26) (.const (.bool false)))⟩]) (.cond (.tmp 27) (.seq (.rg false [⟨(some 2), none, .p (.mv (.const (.bool false)))⟩]) .ret) .skip))))))))) (.seq (.rg false [⟨(some 28), none, .p (.mv (.tmp 0))⟩,
  ⟨(some 29), none, .p (.lenS (.tmp 28))⟩,
  ⟨(some 30), none, .p (.bin .geq (.tmp 29) (.const (.int .i64 1)))⟩,
  ⟨(some 31), none, .p (.mv (.tmp 30))⟩,
  ⟨(some 32), (some (31, true)), .p (.mv (.tmp 0))⟩,
  ⟨(some 33), (some (31, true)), .p (.lenS (.tmp 32))⟩,
  ⟨(some 34), (some (31, true)), .p (.bin .leq (.tmp 33) (.const (.int .i64 64)))⟩,
  ⟨(some 35), none, .p (.pick (.tmp 31) (.tmp 34) (.const (.bool false)))⟩,
  ⟨(some 2), none, .p (.mv (.tmp 35))⟩]) .ret))),
  [.tmp 2]⟩
/-- isinglass/schema.Find$1 -/
def findLF : CFun := ⟨8,
  (.seq (.rg false [⟨(some 2), none, .n (.box 2 (.tmp 0))⟩,
  ⟨(some 3), none, .p (.mv (.const (.bool false)))⟩]) (.seq (.rg false [⟨(some 4), none, .p (.faddr 0 (.tmp 2))⟩,
  ⟨(some 5), none, .l 0 0 (.var none (.tmp 4))⟩,
  ⟨(some 6), none, .l 0 0 (.var none (.tmp 1))⟩,
  ⟨(some 7), none, .p (.bin .eql (.tmp 5) (.tmp 6))⟩,
  ⟨(some 3), none, .p (.mv (.tmp 7))⟩]) .ret)),
  [.tmp 3]⟩
/-- slices.IndexFunc[[]isinglass/api.Column,isinglass/api.Column] -/
def ixColF : CFun := ⟨19,
  (.seq (.rg false [⟨(some 4), none, .p (.mv (.const (.int .i64 0)))⟩]) (.seq (.seq (.rg false [⟨(some 6), none, .p (.mv (.tmp 0))⟩,
  ⟨(some 7), none, .p (.lenSl (.tmp 6))⟩,
  ⟨(some 8), none, .p (.mv (.const (.int .i64 0)))⟩]) (.block 0 (.loop (.seq (.rg false [⟨(some 9), none, .p (.bin .lss (.tmp 8) (.tmp 7))⟩]) (.seq (.cond (.tmp 9) .skip (.exit 0)) (.seq (.block 1 (.seq (.rg false [⟨(some 10), none, .p (.mv (.tmp 8))⟩,
  ⟨(some 5), none, .p (.mv (.tmp 10))⟩]) (.seq (.rg false [⟨(some 11), none, .p (.mv (.tmp 1))⟩,
  ⟨(some 12), none, .p (.mv (.tmp 0))⟩,
  ⟨(some 13), none, .p (.mv (.tmp 5))⟩,
  ⟨(some 14), none, .p (.iaddr 2 (.tmp 12) (.tmp 13))⟩,
  ⟨(some 15), none, .l 0 0 (.var (some 2) (.tmp 14))⟩,
  ⟨(some 16), none, .e true (.callv (.tmp 11) [(.tmp 15)])⟩]) (.cond (.tmp 16) (.seq (.rg false [⟨(some 17), none, .p (.mv (.tmp 5))⟩,
  ⟨(some 4), none, .p (.mv (.tmp 17))⟩]) .ret) .skip)))) (.rg false [⟨(some 18), none, .p (.bin .add (.tmp 8) (.const (.int .i64 1)))⟩,
  ⟨(some 8), none, .p (.mv (.tmp 18))⟩]))))))) (.seq (.rg false [⟨(some 4), none, .p (.mv (.const (.int .i64 (-1))))⟩]) .ret))),
  [.tmp 4]⟩
/-- isinglass/schema.Find; p0: slices.IndexFunc[[]isinglass/api.Column,isinglass/api.Column]; p1: isinglass/schema.Find$1 -/
def findF (p0 p1 : Nat) : CFun := ⟨8,
  (.seq (.rg false [⟨(some 3), none, .n (.box 1 (.tmp 1))⟩,
  ⟨(some 4), none, .p (.mv (.const (.int .i64 0)))⟩]) (.seq (.rg false [⟨(some 5), none, .p (.mv (.tmp 0))⟩,
  ⟨(some 6), none, .p (.mkfn (.func p1) [] [(.tmp 3)])⟩,
  ⟨(some 7), none, .e true (.call p0 [(.tmp 5), (.tmp 6)])⟩,
  ⟨(some 4), none, .p (.mv (.tmp 7))⟩]) .ret)),
  [.tmp 4]⟩
/-- isinglass/schema.May; p0: isinglass/schema.isName; p1: isinglass/schema.Find -/
def mayF (p0 p1 : Nat) : CFun := ⟨43,
  (.seq (.rg false [⟨(some 2), none, .p (.mv (.const (.bool false)))⟩]) (.seq (.seq (.rg false [⟨(some 5), none, .p (.mv (.tmp 0))⟩,
  ⟨(some 6), none, .p (.lenSl (.tmp 5))⟩,
  ⟨(some 7), none, .p (.mv (.const (.int .i64 0)))⟩]) (.block 0 (.loop (.seq (.rg false [⟨(some 8), none, .p (.bin .lss (.tmp 7) (.tmp 6))⟩]) (.seq (.cond (.tmp 8) .skip (.exit 0)) (.seq (.block 1 (.seq (.rg false [⟨(some 9), none, .p (.mv (.tmp 7))⟩,
  ⟨(some 10), none, .p (.iaddr 2 (.tmp 5) (.tmp 7))⟩,
  ⟨(some 11), none, .l 0 0 (.var (some 2) (.tmp 10))⟩,
  ⟨(some 4), none, .n (.alloc [.string ⟨#[]⟩, .int .u8 0])⟩,
  ⟨(some 3), none, .p (.mv (.tmp 9))⟩,
  ⟨none, none, .e true (.st 2 (.tmp 4) (.tmp 11))⟩]) (.seq (.rg false [⟨(some 12), none, .p (.faddr 0 (.tmp 4))⟩,
  ⟨(some 13), none, .l 0 0 (.var none (.tmp 12))⟩,
  ⟨(some 14), none, .e true (.call p0 [(.tmp 13)])⟩,
  ⟨(some 15), none, .p (.un .not (.tmp 14))⟩,
  ⟨(some 16), none, .p (.mv (.tmp 15))⟩,
  ⟨(some 17), (some (16, false)), .p (.faddr 1 (.tmp 4))⟩,
  ⟨(some 18), (some (16, false)), .l 0 0 (.var none (.tmp 17))⟩,
  ⟨(some 19), (some (16, false)), .p (.bin .lss (.tmp 18) (.const (.int .u8 1)))⟩,
  ⟨(some 20), none, .p (.pick (.tmp 16) (.const (.bool true)) (.tmp 19))⟩,
  ⟨(some 21), none, .p (.mv (.tmp 20))⟩,
  ⟨(some 22), (some (21, false)), .p (.faddr 1 (.tmp 4))⟩,
  ⟨(some 23), (some (21, false)), .l 0 0 (.var none (.tmp 22))⟩,
  ⟨(some 24), (some (21, false)), .p (.bin .gtr (.tmp 23) (.const (.int .u8 3)))⟩,
  ⟨(some 25), none, .p (.pick (.tmp 21) (.const (.bool true)) (.tmp 24))⟩,
  ⟨(some 26), none, .p (.mv (.tmp 25))⟩,
  ⟨(some 27), (some (26, false)), .p (.mv (.tmp 0))⟩,
  ⟨(some 28), (some (26, false)), .p (.faddr 0 (.tmp 4))⟩,
  ⟨(some 29), (some (26, false)), .l 0 0 (.var none (.tmp 28))⟩,
  ⟨(some 30), (some (26, false)), .e true (.call p1 [(.tmp 27), (.tmp 29)])⟩,
  ⟨(some 31), (some (26, false)), .p (.mv (.tmp 3))⟩,
  ⟨(some 32), (some (26, false)), .p (.bin .neq (.tmp 30) (.tmp 31))⟩,
  ⟨(some 33), none, .p (.pick (.tmp 26) (.const (.bool true)) (.tmp 32))⟩]) (.cond (.tmp 33) (.seq (.rg false [⟨(some 2), none, .p (.mv (.const (.bool false)))⟩]) .ret) .skip)))) (.rg false [⟨(some 34), none, .p (.bin .add (.tmp 7) (.const (.int .i64 1)))⟩,
  ⟨(some 7), none, .p (.mv (.tmp 34))⟩]))))))) (.seq (.rg false [⟨(some 35), none, .p (.mv (.tmp 0))⟩,
  ⟨(some 36), none, .p (.lenSl (.tmp 35))⟩,
  ⟨(some 37), none, .p (.bin .geq (.tmp 36) (.const (.int .i64 1)))⟩,
  ⟨(some 38), none, .p (.mv (.tmp 37))⟩,
  ⟨(some 39), (some (38, true)), .p (.mv (.tmp 0))⟩,
  ⟨(some 40), (some (38, true)), .p (.lenSl (.tmp 39))⟩,
  ⟨(some 41), (some (38, true)), .p (.bin .leq (.tmp 40) (.const (.int .i64 256)))⟩,
  ⟨(some 42), none, .p (.pick (.tmp 38) (.tmp 41) (.const (.bool false)))⟩,
  ⟨(some 2), none, .p (.mv (.tmp 42))⟩]) .ret))),
  [.tmp 2]⟩
/-- isinglass/schema.Dimension -/
def dimF : CFun := ⟨29,
  (.seq (.rg false [⟨(some 4), none, .p (.mv (.const (.bool false)))⟩]) (.seq (.rg false [⟨(some 5), none, .p (.mv (.tmp 1))⟩,
  ⟨(some 6), none, .p (.bin .geq (.tmp 5) (.const (.int .i64 0)))⟩,
  ⟨(some 7), none, .p (.mv (.tmp 6))⟩,
  ⟨(some 8), (some (7, true)), .p (.mv (.tmp 1))⟩,
  ⟨(some 9), (some (7, true)), .p (.mv (.tmp 0))⟩,
  ⟨(some 10), (some (7, true)), .p (.lenSl (.tmp 9))⟩,
  ⟨(some 11), (some (7, true)), .p (.bin .lss (.tmp 8) (.tmp 10))⟩,
  ⟨(some 12), none, .p (.pick (.tmp 7) (.tmp 11) (.const (.bool false)))⟩,
  ⟨(some 13), none, .p (.mv (.tmp 12))⟩,
  ⟨(some 14), (some (13, true)), .p (.mv (.tmp 0))⟩,
  ⟨(some 15), (some (13, true)), .p (.mv (.tmp 1))⟩,
  ⟨(some 16), (some (13, true)), .p (.iaddr 2 (.tmp 14) (.tmp 15))⟩,
  ⟨(some 17), (some (13, true)), .p (.faddr 1 (.tmp 16))⟩,
  ⟨(some 18), (some (13, true)), .l 0 0 (.var none (.tmp 17))⟩,
  ⟨(some 19), (some (13, true)), .p (.bin .eql (.tmp 18) (.const (.int .u8 1)))⟩,
  ⟨(some 20), (some (13, true)), .p (.mv (.tmp 19))⟩,
  ⟨(some 21), (some (20, false)), .p (.mv (.tmp 0))⟩,
  ⟨(some 22), (some (20, false)), .p (.mv (.tmp 1))⟩,
  ⟨(some 23), (some (20, false)), .p (.iaddr 2 (.tmp 21) (.tmp 22))⟩,
  ⟨(some 24), (some (20, false)), .p (.faddr 1 (.tmp 23))⟩,
  ⟨(some 25), (some (20, false)), .l 0 0 (.var none (.tmp 24))⟩,
  ⟨(some 26), (some (20, false)), .p (.bin .eql (.tmp 25) (.const (.int .u8 2)))⟩,
  ⟨(some 27), (some (13, true)), .p (.pick (.tmp 20) (.const (.bool true)) (.tmp 26))⟩,
  ⟨(some 28), none, .p (.pick (.tmp 13) (.tmp 27) (.const (.bool false)))⟩,
  ⟨(some 4), none, .p (.mv (.tmp 28))⟩]) .ret)),
  [.tmp 4]⟩
/-- isinglass/schema.flagged; p0: isinglass/schema.Dimension -/
def flaggedF (p0 : Nat) : CFun := ⟨32,
  (.seq (.rg false [⟨(some 4), none, .p (.mv (.const (.bool false)))⟩]) (.seq (.seq (.rg false [⟨(some 7), none, .p (.mv (.tmp 1))⟩,
  ⟨(some 8), none, .p (.lenSl (.tmp 7))⟩,
  ⟨(some 9), none, .p (.mv (.const (.int .i64 0)))⟩]) (.block 0 (.loop (.seq (.rg false [⟨(some 10), none, .p (.bin .lss (.tmp 9) (.tmp 8))⟩]) (.seq (.cond (.tmp 10) .skip (.exit 0)) (.seq (.block 1 (.seq (.rg false [⟨(some 11), none, .p (.mv (.tmp 9))⟩,
  ⟨(some 12), none, .p (.iaddr 1 (.tmp 7) (.tmp 9))⟩,
  ⟨(some 13), none, .l 0 0 (.var none (.tmp 12))⟩,
  ⟨(some 5), none, .p (.mv (.tmp 11))⟩,
  ⟨(some 6), none, .p (.mv (.tmp 13))⟩]) (.seq (.rg false [⟨(some 14), none, .p (.mv (.tmp 6))⟩,
  ⟨(some 15), none, .p (.mv (.tmp 14))⟩,
  ⟨(some 16), (some (15, true)), .p (.mv (.tmp 0))⟩,
  ⟨(some 17), (some (15, true)), .p (.mv (.tmp 5))⟩,
  ⟨(some 18), (some (15, true)), .e true (.call p0 [(.tmp 16), (.tmp 17)])⟩,
  ⟨(some 19), (some (15, true)), .p (.un .not (.tmp 18))⟩,
  ⟨(some 20), none, .p (.pick (.tmp 15) (.tmp 19) (.const (.bool false)))⟩]) (.cond (.tmp 20) (.seq (.rg false [⟨(some 4), none, .p (.mv (.const (.bool false)))⟩]) .ret) .skip)))) (.rg false [⟨(some 21), none, .p (.bin .add (.tmp 9) (.const (.int .i64 1)))⟩,
  ⟨(some 9), none, .p (.mv (.tmp 21))⟩]))))))) (.seq (.rg false [⟨(some 22), none, .p (.mv (.tmp 1))⟩,
  ⟨(some 23), none, .p (.lenSl (.tmp 22))⟩,
  ⟨(some 24), none, .p (.bin .eql (.tmp 23) (.const (.int .i64 0)))⟩,
  ⟨(some 25), none, .p (.mv (.tmp 24))⟩,
  ⟨(some 26), (some (25, false)), .p (.mv (.tmp 1))⟩,
  ⟨(some 27), (some (25, false)), .p (.lenSl (.tmp 26))⟩,
  ⟨(some 28), (some (25, false)), .p (.mv (.tmp 0))⟩,
  ⟨(some 29), (some (25, false)), .p (.lenSl (.tmp 28))⟩,
  ⟨(some 30), (some (25, false)), .p (.bin .eql (.tmp 27) (.tmp 29))⟩,
  ⟨(some 31), none, .p (.pick (.tmp 25) (.const (.bool true)) (.tmp 30))⟩,
  ⟨(some 4), none, .p (.mv (.tmp 31))⟩]) .ret))),
  [.tmp 4]⟩
/-- slices.Index[[]int,int] -/
def ixIntF : CFun := ⟨19,
  (.seq (.rg false [⟨(some 4), none, .p (.mv (.const (.int .i64 0)))⟩]) (.seq (.seq (.rg false [⟨(some 6), none, .p (.mv (.tmp 0))⟩,
  ⟨(some 7), none, .p (.lenSl (.tmp 6))⟩,
  ⟨(some 8), none, .p (.mv (.const (.int .i64 0)))⟩]) (.block 0 (.loop (.seq (.rg false [⟨(some 9), none, .p (.bin .lss (.tmp 8) (.tmp 7))⟩]) (.seq (.cond (.tmp 9) .skip (.exit 0)) (.seq (.block 1 (.seq (.rg false [⟨(some 10), none, .p (.mv (.tmp 8))⟩,
  ⟨(some 5), none, .p (.mv (.tmp 10))⟩]) (.seq (.rg false [⟨(some 11), none, .p (.mv (.tmp 1))⟩,
  ⟨(some 12), none, .p (.mv (.tmp 0))⟩,
  ⟨(some 13), none, .p (.mv (.tmp 5))⟩,
  ⟨(some 14), none, .p (.iaddr 1 (.tmp 12) (.tmp 13))⟩,
  ⟨(some 15), none, .l 0 0 (.var none (.tmp 14))⟩,
  ⟨(some 16), none, .p (.bin .eql (.tmp 11) (.tmp 15))⟩]) (.cond (.tmp 16) (.seq (.rg false [⟨(some 17), none, .p (.mv (.tmp 5))⟩,
  ⟨(some 4), none, .p (.mv (.tmp 17))⟩]) .ret) .skip)))) (.rg false [⟨(some 18), none, .p (.bin .add (.tmp 8) (.const (.int .i64 1)))⟩,
  ⟨(some 8), none, .p (.mv (.tmp 18))⟩]))))))) (.seq (.rg false [⟨(some 4), none, .p (.mv (.const (.int .i64 (-1))))⟩]) .ret))),
  [.tmp 4]⟩
/-- slices.Contains[[]int,int]; p0: slices.Index[[]int,int] -/
def hasIntF (p0 : Nat) : CFun := ⟨9,
  (.seq (.rg false [⟨(some 4), none, .p (.mv (.const (.bool false)))⟩]) (.seq (.rg false [⟨(some 5), none, .p (.mv (.tmp 0))⟩,
  ⟨(some 6), none, .p (.mv (.tmp 1))⟩,
  ⟨(some 7), none, .e true (.call p0 [(.tmp 5), (.tmp 6)])⟩,
  ⟨(some 8), none, .p (.bin .geq (.tmp 7) (.const (.int .i64 0)))⟩,
  ⟨(some 4), none, .p (.mv (.tmp 8))⟩]) .ret)),
  [.tmp 4]⟩
/-- Behind the first test of Fits. -/
def fitsRest (p1 p3 : Nat) : CCode := (.seq (.seq (.rg false [⟨(some 36), none, .p (.faddr 3 (.tmp 3))⟩,
  ⟨(some 37), none, .l 0 0 (.var none (.tmp 36))⟩,
  ⟨(some 38), none, .p (.lenSl (.tmp 37))⟩,
  ⟨(some 39), none, .p (.mv (.const (.int .i64 0)))⟩]) (.block 0 (.loop (.seq (.rg false [⟨(some 40), none, .p (.bin .lss (.tmp 39) (.tmp 38))⟩]) (.seq (.cond (.tmp 40) .skip (.exit 0)) (.seq (.block 1 (.seq (.rg false [⟨(some 41), none, .p (.mv (.tmp 39))⟩,
  ⟨(some 42), none, .p (.iaddr 1 (.tmp 37) (.tmp 39))⟩,
  ⟨(some 43), none, .l 0 0 (.var none (.tmp 42))⟩,
  ⟨(some 5), none, .p (.mv (.tmp 41))⟩,
  ⟨(some 6), none, .p (.mv (.tmp 43))⟩]) (.seq (.rg false [⟨(some 44), none, .p (.mv (.tmp 0))⟩,
  ⟨(some 45), none, .p (.mv (.tmp 6))⟩,
  ⟨(some 46), none, .e true (.call p1 [(.tmp 44), (.tmp 45)])⟩,
  ⟨(some 47), none, .p (.un .not (.tmp 46))⟩,
  ⟨(some 48), none, .p (.mv (.tmp 47))⟩,
  ⟨(some 49), (some (48, false)), .p (.faddr 3 (.tmp 3))⟩,
  ⟨(some 50), (some (48, false)), .l 0 0 (.var none (.tmp 49))⟩,
  ⟨(some 51), (some (48, false)), .p (.mv (.tmp 5))⟩,
  ⟨(some 52), (some (48, false)), .p (.sl 1 (.tmp 50) none (some (.tmp 51)) none)⟩,
  ⟨(some 53), (some (48, false)), .p (.mv (.tmp 6))⟩,
  ⟨(some 54), (some (48, false)), .e true (.call p3 [(.tmp 52), (.tmp 53)])⟩,
  ⟨(some 55), none, .p (.pick (.tmp 48) (.const (.bool true)) (.tmp 54))⟩]) (.cond (.tmp 55) (.seq (.rg false [⟨(some 4), none, .p (.mv (.const (.bool false)))⟩]) .ret) .skip)))) (.rg false [⟨(some 56), none, .p (.bin .add (.tmp 39) (.const (.int .i64 1)))⟩,
  ⟨(some 39), none, .p (.mv (.tmp 56))⟩]))))))) (.seq (.rg false [⟨(some 57), none, .p (.faddr 3 (.tmp 3))⟩,
  ⟨(some 58), none, .l 0 0 (.var none (.tmp 57))⟩,
  ⟨(some 59), none, .p (.lenSl (.tmp 58))⟩,
  ⟨(some 60), none, .p (.bin .leq (.tmp 59) (.const (.int .i64 8)))⟩,
  ⟨(some 61), none, .p (.mv (.tmp 60))⟩,
  ⟨(some 62), (some (61, true)), .p (.faddr 4 (.tmp 3))⟩,
  ⟨(some 63), (some (61, true)), .l 0 0 (.var none (.tmp 62))⟩,
  ⟨(some 64), (some (61, true)), .p (.bin .geq (.tmp 63) (.const (.int .i64 1)))⟩,
  ⟨(some 65), none, .p (.pick (.tmp 61) (.tmp 64) (.const (.bool false)))⟩,
  ⟨(some 66), none, .p (.mv (.tmp 65))⟩,
  ⟨(some 67), (some (66, true)), .p (.faddr 4 (.tmp 3))⟩,
  ⟨(some 68), (some (66, true)), .l 0 0 (.var none (.tmp 67))⟩,
  ⟨(some 69), (some (66, true)), .p (.bin .leq (.tmp 68) (.const (.int .i64 1000000)))⟩,
  ⟨(some 70), none, .p (.pick (.tmp 66) (.tmp 69) (.const (.bool false)))⟩,
  ⟨(some 4), none, .p (.mv (.tmp 70))⟩]) .ret))
/-- isinglass/schema.Fits; p0: isinglass/schema.May; p1: isinglass/schema.Dimension; p2: isinglass/schema.flagged; p3: slices.Contains[[]int,int] -/
def fitsF (p0 p1 p2 p3 : Nat) : CFun := ⟨71,
  (.seq (.rg false [⟨(some 3), none, .n (.box 5 (.tmp 1))⟩,
  ⟨(some 4), none, .p (.mv (.const (.bool false)))⟩]) (.seq (.seq (.rg false [⟨(some 7), none, .p (.mv (.tmp 0))⟩,
  ⟨(some 8), none, .e true (.call p0 [(.tmp 7)])⟩,
  ⟨(some 9), none, .p (.un .not (.tmp 8))⟩,
  ⟨(some 10), none, .p (.mv (.tmp 9))⟩,
  ⟨(some 11), (some (10, false)), .p (.faddr 0 (.tmp 3))⟩,
  ⟨(some 12), (some (10, false)), .l 0 0 (.var none (.tmp 11))⟩,
  ⟨(some 13), (some (10, false)), .p (.bin .neq (.tmp 12) (.const (.int .i64 (-1))))⟩,
  ⟨(some 14), (some (10, false)), .p (.mv (.tmp 13))⟩,
  ⟨(some 15), (some (14, true)), .p (.mv (.tmp 0))⟩,
  ⟨(some 16), (some (14, true)), .p (.faddr 0 (.tmp 3))⟩,
  ⟨(some 17), (some (14, true)), .l 0 0 (.var none (.tmp 16))⟩,
  ⟨(some 18), (some (14, true)), .e true (.call p1 [(.tmp 15), (.tmp 17)])⟩,
  ⟨(some 19), (some (14, true)), .p (.un .not (.tmp 18))⟩,
  ⟨(some 20), (some (10, false)), .p (.pick (.tmp 14) (.tmp 19) (.const (.bool false)))⟩,
  ⟨(some 21), none, .p (.pick (.tmp 10) (.const (.bool true)) (.tmp 20))⟩,
  ⟨(some 22), none, .p (.mv (.tmp 21))⟩,
  ⟨(some 23), (some (22, false)), .p (.mv (.tmp 0))⟩,
  ⟨(some 24), (some (22, false)), .p (.faddr 1 (.tmp 3))⟩,
  ⟨(some 25), (some (22, false)), .l 0 0 (.var none (.tmp 24))⟩,
  ⟨(some 26), (some (22, false)), .e true (.call p2 [(.tmp 23), (.tmp 25)])⟩,
  ⟨(some 27), (some (22, false)), .p (.un .not (.tmp 26))⟩,
  ⟨(some 28), none, .p (.pick (.tmp 22) (.const (.bool true)) (.tmp 27))⟩,
  ⟨(some 29), none, .p (.mv (.tmp 28))⟩,
  ⟨(some 30), (some (29, false)), .p (.mv (.tmp 0))⟩,
  ⟨(some 31), (some (29, false)), .p (.faddr 2 (.tmp 3))⟩,
  ⟨(some 32), (some (29, false)), .l 0 0 (.var none (.tmp 31))⟩,
  ⟨(some 33), (some (29, false)), .e true (.call p2 [(.tmp 30), (.tmp 32)])⟩,
  ⟨(some 34), (some (29, false)), .p (.un .not (.tmp 33))⟩,
  ⟨(some 35), none, .p (.pick (.tmp 29) (.const (.bool true)) (.tmp 34))⟩]) (.cond (.tmp 35) (.seq (.rg false [⟨(some 4), none, .p (.mv (.const (.bool false)))⟩]) .ret) .skip)) (fitsRest p1 p3))),
  [.tmp 4]⟩
/-- isinglass/schema.Has -/
def hasF : CFun := ⟨19,
  (.seq (.rg false [⟨(some 4), none, .p (.mv (.const (.bool false)))⟩]) (.seq (.rg false [⟨(some 5), none, .p (.mv (.tmp 1))⟩,
  ⟨(some 6), none, .p (.bin .geq (.tmp 5) (.const (.int .i64 0)))⟩,
  ⟨(some 7), none, .p (.mv (.tmp 6))⟩,
  ⟨(some 8), (some (7, true)), .p (.mv (.tmp 1))⟩,
  ⟨(some 9), (some (7, true)), .p (.mv (.tmp 0))⟩,
  ⟨(some 10), (some (7, true)), .p (.lenSl (.tmp 9))⟩,
  ⟨(some 11), (some (7, true)), .p (.bin .lss (.tmp 8) (.tmp 10))⟩,
  ⟨(some 12), none, .p (.pick (.tmp 7) (.tmp 11) (.const (.bool false)))⟩,
  ⟨(some 13), none, .p (.mv (.tmp 12))⟩,
  ⟨(some 14), (some (13, true)), .p (.mv (.tmp 0))⟩,
  ⟨(some 15), (some (13, true)), .p (.mv (.tmp 1))⟩,
  ⟨(some 16), (some (13, true)), .p (.iaddr 1 (.tmp 14) (.tmp 15))⟩,
  ⟨(some 17), (some (13, true)), .l 0 0 (.var none (.tmp 16))⟩,
  ⟨(some 18), none, .p (.pick (.tmp 13) (.tmp 17) (.const (.bool false)))⟩,
  ⟨(some 4), none, .p (.mv (.tmp 18))⟩]) .ret)),
  [.tmp 4]⟩

/-! ### memory -/
/-- What was there is as it was. -/
def Keep (h h' : CH) : Prop := h.next ≤ h'.next ∧ ∀ id, id < h.next → h'.get id = h.get id
theorem Keep.refl (h : CH) : Keep h h := ⟨Nat.le_refl _, fun _ _ => rfl⟩
theorem Keep.trans {a b c : CH} (h : Keep a b) (h' : Keep b c) : Keep a c := ⟨Nat.le_trans h.1 h'.1, fun id hid => (h'.2 id (Nat.lt_of_lt_of_le hid h.1)).trans (h.2 id hid)⟩
theorem Keep.add (h : CH) (o : CObj) : Keep h (h.add o) := ⟨Nat.le_succ _, fun id hid => by rw [get_add, if_neg (by omega)]⟩
theorem Keep.put {h : CH} {h0 : CH} (hk : Keep h0 h) {id : Nat} (hid : h0.next ≤ id) (o : CObj) : Keep h0 (h.put id o) := ⟨hk.1, fun j hj => by rw [CH.get_put, if_neg (by omega)]; exact hk.2 j hj⟩
/-- A truth value that tells P. -/
def BoolR (P : Prop) (h : CH) (r : Value) (h' : CH) : Prop := ∃ b : Bool, r = .bool b ∧ (b = true ↔ P) ∧ Keep h h'
/-- A number that tells P. -/
def IntR (P : Int → Prop) (h : CH) (r : Value) (h' : CH) : Prop := ∃ i : Int, r = .int .i64 i ∧ P i ∧ Keep h h'
/-- A slice that came in: n elements of sz cells each, with these cells. -/
def SlG (E : Env) (v : Value) (n sz : Nat) (xs : List Value) : Prop :=
  xs.length = n * sz ∧ ((v = .slice none 0 0 ∧ n = 0) ∨ ∃ b o C, v = .slice (some ⟨b, o, none⟩) n C ∧ (n = 0 ∨ ∃ cs, E.glob b = some cs ∧ xs <+: cs.drop o))
theorem SlG.form {v : Value} {n sz : Nat} {xs : List Value} (h : SlG E v n sz xs) : ∃ a C, v = .slice a n C := by
  rcases h.2 with ⟨rfl, h0⟩ | ⟨b, o, C, rfl, _⟩
  · exact ⟨none, 0, by rw [h0]⟩
  · exact ⟨_, _, rfl⟩
theorem SlG.get {v : Value} {n sz : Nat} {xs : List Value} (h : SlG E v n sz xs) {j : Nat} (hj : j < n) : ∃ b o C cs, v = .slice (some ⟨b, o, none⟩) n C ∧ E.glob b = some cs ∧ xs <+: cs.drop o := by
  rcases h.2 with ⟨rfl, h0⟩ | ⟨b, o, C, hv, h0 | ⟨cs, hg, hp⟩⟩
  · omega
  · omega
  · exact ⟨b, o, C, cs, hv, hg, hp⟩
theorem prefix_get {xs l : List Value} (hp : xs <+: l) {j : Nat} {v : Value} (hx : xs[j]? = some v) : l[j]? = some v := by
  obtain ⟨r, rfl⟩ := hp
  rw [List.getElem?_append_left (List.getElem?_eq_some_iff.1 hx).1]; exact hx
theorem lVar_g1 {h : CH} {b o : Nat} {cs xs : List Value} (hg : E.glob b = some cs) (hp : xs <+: cs.drop o) {k : Nat} {v : Value} (hx : xs[k]? = some v) : lVar E h none (.pointer (some ⟨b, o + k, none⟩)) = some v := by
  have := prefix_get hp hx
  simp only [lVar, cview, hg, Option.map_some, List.head?_drop]
  rw [List.getElem?_drop] at this
  exact this
theorem takeN_take {n : Nat} : ∀ {l : List Value}, n ≤ l.length → takeN n l = some (l.take n) := by
  induction n with
  | zero => intro l _; rfl
  | succ n ih =>
    intro l hl
    cases l with
    | nil => simp at hl
    | cons a r => simp only [takeN, ih (by simpa using hl), Option.map_some, List.take_succ_cons]
theorem lVar_gn {h : CH} {b o : Nat} {cs xs : List Value} (hg : E.glob b = some cs) (hp : xs <+: cs.drop o) {k m : Nat} {ys : List Value} (hx : (xs.drop k).take m = ys) (hm : k + m ≤ xs.length) :
    lVar E h (some m) (.pointer (some ⟨b, o + k, none⟩)) = some (.agg ⟨ys⟩) := by
  subst hx
  simp only [lVar, cview, hg, Option.map_some]
  obtain ⟨r, hr⟩ := hp
  have e : cs.drop (o + k) = (xs ++ r).drop k := by rw [hr, List.drop_drop]
  rw [e, takeN_take (by simp; omega)]
  simp only [Option.map_some]
  rw [List.drop_append_of_le_length (by omega), List.take_append_of_le_length (by simp; omega)]
theorem lVar_box {h : CH} {id off : Nat} {c : List Value} {ep wep : Nat} {his : List Nat} {ro : Bool} (hg : h.get id = some (.cells c ep wep his ro)) (hw : wep ≤ ep) {v : Value} (hv : c[off]? = some v) : lVar E h none (.pointer (some ⟨id, off, some ep⟩)) = some v := by
  have hv' : view (.cells c ep wep his ro) ep = some c := by
    simp only [view]
    rw [show Nat.ble wep ep = true by rw [Nat.ble_eq]; exact hw, Nat.beq_refl]; rfl
  simp only [lVar, cview, hg, hv', Option.map_some, List.head?_drop]
  exact hv
theorem lVar_fresh {h : CH} {id off : Nat} {c : List Value} (hg : h.get id = some (fresh c)) {v : Value} (hv : c[off]? = some v) : lVar E h none (.pointer (some ⟨id, off, some 0⟩)) = some v := lVar_box hg (Nat.le_refl _) hv
theorem get_new {h : CH} {o : CObj} : (h.add o).get h.next = some o := by rw [get_add, if_pos rfl]
@[simp] theorem next_add {h : CH} {o : CObj} : (h.add o).next = h.next + 1 := nr rfl
@[simp] theorem next_put {h : CH} {id : Nat} {o : CObj} : (h.put id o).next = h.next := nr rfl

/-! ### columns -/
abbrev Col := List UInt8 × Nat
def colCells : List Col → List Value
  | [] => []
  | c :: r => .string (mkstr c.1) :: .int .u8 (c.2 : Nat) :: colCells r
theorem colCells_length : ∀ {l : List Col}, (colCells l).length = l.length * 2
  | [] => rfl
  | c :: r => by simp only [colCells, List.length_cons, colCells_length (l := r)]; omega
theorem colCells_name : ∀ {l : List Col} {j : Nat} {c : Col}, l[j]? = some c → (colCells l)[j * 2]? = some (.string (mkstr c.1)) ∧ (colCells l)[j * 2 + 1]? = some (.int .u8 (c.2 : Nat))
  | [], j, c, h => by simp at h
  | x :: r, 0, c, h => by simp at h; subst h; exact ⟨rfl, rfl⟩
  | x :: r, j + 1, c, h => by
    simp only [List.getElem?_cons_succ] at h
    have := colCells_name h
    rw [show (j + 1) * 2 = j * 2 + 1 + 1 by omega]
    exact this
theorem colCells_pair : ∀ {l : List Col} {j : Nat} {c : Col}, l[j]? = some c → ((colCells l).drop (j * 2)).take 2 = [.string (mkstr c.1), .int .u8 (c.2 : Nat)]
  | [], j, c, h => by simp at h
  | x :: r, 0, c, h => by simp at h; subst h; rfl
  | x :: r, j + 1, c, h => by
    simp only [List.getElem?_cons_succ] at h
    have := colCells_pair h
    rw [show (j + 1) * 2 = j * 2 + 1 + 1 by omega]
    exact this

/-! ### Has, Dimension -/
theorem has_ok {f : FuncId} (hf : HasF E I f hasF) {d : Nat} {v : Value} {i : Int} {fl : List Bool} {h : CH} (hs : SlG E v fl.length 1 (fl.map .bool)) :
    Fc (ccall E I N (d + 1)) f [v, .int .i64 i] h (BoolR (0 ≤ i ∧ fl[i.toNat]? = some true) h) := by
  obtain ⟨a, C, rfl⟩ := hs.form
  refine hf.body (by rfl) (by simp [hasF]) fun τ hτ => ?_
  have g0 : τ 0 = .slice a fl.length C := hτ 0 (by simp)
  have g1 : τ 1 = .int .i64 i := hτ 1 (by simp)
  by_cases h0 : 0 ≤ i
  · by_cases h1 : i < fl.length
    · obtain ⟨j, rfl⟩ := Int.eq_ofNat_of_zero_le h0
      have hj : j < fl.length := by omega
      obtain ⟨b, o, C', cs, he, hg, hp⟩ := hs.get hj
      injection he with h1 h2 h3
      subst h1 h3
      simp [hasF, g0, g1, h0, hj, pIaddr_mk hj, lVar_g1 hg hp (k := j) (v := .bool fl[j]) (by simp [hj])]
      exact ⟨_, rfl, by simp, .refl _⟩
    · simp [hasF, g0, g1, h0, h1]
      exact ⟨_, rfl, by simp <;> (intro _; omega), .refl _⟩
  · simp [hasF, g0, g1, h0]
    exact ⟨_, rfl, by simp <;> omega, .refl _⟩
/-- A dimension's place. -/
def DimP (cols : List Col) (i : Int) : Prop := 0 ≤ i ∧ ∃ c, cols[i.toNat]? = some c ∧ (c.2 = 1 ∨ c.2 = 2)
theorem dim_ok {f : FuncId} (hf : HasF E I f dimF) {d : Nat} {v : Value} {i : Int} {cols : List Col} {h : CH} (hs : SlG E v cols.length 2 (colCells cols)) :
    Fc (ccall E I N (d + 1)) f [v, .int .i64 i] h (BoolR (DimP cols i) h) := by
  obtain ⟨a, C, rfl⟩ := hs.form
  refine hf.body (by rfl) (by simp [dimF]) fun τ hτ => ?_
  have g0 : τ 0 = .slice a cols.length C := hτ 0 (by simp)
  have g1 : τ 1 = .int .i64 i := hτ 1 (by simp)
  unfold DimP
  by_cases h0 : 0 ≤ i
  · by_cases h1 : i < cols.length
    · obtain ⟨j, rfl⟩ := Int.eq_ofNat_of_zero_le h0
      have hj : j < cols.length := by omega
      obtain ⟨b, o, C', cs, he, hg, hp⟩ := hs.get hj
      injection he with h1 h2 h3
      subst h1 h3
      have hc : cols[j]? = some cols[j] := List.getElem?_eq_getElem hj
      have hl := lVar_g1 (h := h) hg hp (k := j * 2 + 1) (colCells_name hc).2
      rw [← Nat.add_assoc] at hl
      by_cases k1 : ((cols[j].2 : Nat) : Int) = 1
      · simp [dimF, g0, g1, h0, hj, pIaddr_mk hj, hl, k1]
        exact ⟨_, rfl, by simp <;> omega, .refl _⟩
      · by_cases k2 : ((cols[j].2 : Nat) : Int) = 2
        · simp [dimF, g0, g1, h0, hj, pIaddr_mk hj, hl, k2]
          exact ⟨_, rfl, by simp <;> omega, .refl _⟩
        · simp [dimF, g0, g1, h0, hj, pIaddr_mk hj, hl, k1, k2]
          exact ⟨_, rfl, by simp <;> omega, .refl _⟩
    · simp [dimF, g0, g1, h0, h1]
      exact ⟨_, rfl, by simp <;> (intro _ a b hx; have := (List.getElem?_eq_some_iff.1 hx).1; omega), .refl _⟩
  · simp [dimF, g0, g1, h0]
    exact ⟨_, rfl, by simp <;> omega, .refl _⟩

/-! ### names -/
def nameB (u : UInt8) : Prop := (97 ≤ u.toNat ∧ u.toNat ≤ 122) ∨ (48 ≤ u.toNat ∧ u.toNat ≤ 57) ∨ u.toNat = 95
def NameP (l : List UInt8) : Prop := (∀ u ∈ l, nameB u) ∧ 1 ≤ l.length ∧ l.length ≤ 64
theorem decode_big {s : ByteArray} {i : Nat} (h : 128 ≤ (s.get! i).toNat) : 128 ≤ (Utf8.decode s i).1 := by
  unfold Utf8.decode
  simp only [Nat.add_zero]
  rw [if_neg (by omega)]
  have hr : 128 ≤ Utf8.runeError := by decide
  split
  · split
    · assumption
    · exact hr
  · split
    · split
      · rename_i h1; simp only [Bool.and_eq_true, decide_eq_true_eq] at h1; omega
      · exact hr
    · split
      · split
        · rename_i h1; simp only [Bool.and_eq_true, decide_eq_true_eq] at h1; omega
        · exact hr
      · exact hr
theorem get_mkstr {l : List UInt8} {i : Nat} (h : i < l.length) : (mkstr l).get! i = l[i] := by
  show (⟨l⟩ : Array UInt8)[i]! = l[i]
  simp [h]
theorem cdecode_name {l : List UInt8} {p : Nat} (hp : p < l.length) (hn : nameB l[p]) : cdecode l p = (l[p].toNat, 1) := by
  unfold cdecode
  rw [List.getElem?_eq_getElem hp]
  simp only
  have : Nat.blt l[p].toNat 128 = true := by rw [Nat.blt_eq]; unfold nameB at hn; omega
  rw [this]; rfl
theorem cdecode_not {l : List UInt8} {p : Nat} (hp : p < l.length) (hn : ¬ nameB l[p]) : ¬ ((97 ≤ (cdecode l p).1 ∧ (cdecode l p).1 ≤ 122) ∨ (48 ≤ (cdecode l p).1 ∧ (cdecode l p).1 ≤ 57) ∨ (cdecode l p).1 = 95) := by
  unfold cdecode
  rw [List.getElem?_eq_getElem hp]
  simp only
  cases hb : Nat.blt l[p].toNat 128 with
  | true => exact hn
  | false =>
    rw [← Bool.not_eq_true, Nat.blt_eq] at hb
    simp only [cond_false]
    have := decode_big (s := mkstr l) (i := p) (by rw [get_mkstr hp]; omega)
    omega
theorem eNext_more {h : CH} {id p : Nat} {l : List UInt8} (hg : h.get id = some (.iter l p)) (hp : p < l.length) :
    eNext h (.pointer (some ⟨id, 0, some 0⟩)) = some (.ret (.tuple #[.bool true, .int .i64 (p : Nat), .int .i32 ((cdecode l p).1 : Nat)]), h.put id (.iter l (p + (cdecode l p).2))) := by
  simp only [eNext, hg]
  rw [show Nat.blt p l.length = true by rw [Nat.blt_eq]; exact hp]; rfl
theorem eNext_end {h : CH} {id p : Nat} {l : List UInt8} (hg : h.get id = some (.iter l p)) (hp : l.length ≤ p) :
    eNext h (.pointer (some ⟨id, 0, some 0⟩)) = some (.ret (.tuple #[.bool false]), h) := by
  simp only [eNext, hg]
  rw [show Nat.blt p l.length = false by rw [← Bool.not_eq_true, Nat.blt_eq]; omega]; rfl
@[simp] theorem pExt_mk {l : List Value} {i : Nat} : pExt (.tuple ⟨l⟩) i = l[i]? := nr rfl
/-- The loop of isName. -/
def NameI (l : List UInt8) (h : CH) (m : Nat) (τ : Tau) (h' : CH) : Prop := ∃ p, m = l.length - p ∧ p ≤ l.length ∧ τ 0 = .string (mkstr l) ∧ τ 6 = ptr0 h.next ∧ h'.get h.next = some (.iter l p) ∧ Keep h h' ∧ ∀ i (hi : i < l.length), i < p → nameB l[i]
theorem isName_ok {f : FuncId} (hf : HasF E I f isNameF) {d : Nat} {l : List UInt8} {h : CH} (hN : l.length < N) :
    Fc (ccall E I N (d + 1)) f [.string (mkstr l)] h (BoolR (NameP l) h) := by
  refine hf.body (by rfl) (by simp [isNameF]) fun τ hτ => ?_
  have g0 : τ 0 = .string (mkstr l) := hτ 0 (by simp)
  simp [isNameF, g0, nIter]
  refine wT_loop (NameI l h) l.length hN ?_ ?_
  · exact ⟨0, by simp, by simp, by simp [g0], by simp, get_new, Keep.add _ _, by simp⟩
  rintro m τ h' ⟨p, rfl, hp, t0, t6, hg, hk, hall⟩
  rcases Nat.lt_or_ge p l.length with hlt | hge
  · simp [t6, ptr0, eNext_more hg hlt]
    by_cases hn : nameB l[p]
    · have hd := cdecode_name hlt hn
      have hu : nameB l[p] := hn
      simp only [hd]
      unfold nameB at hn
      rcases hn with hn | hn | hn
      · have a1 : ¬ ((l[p].toNat : Nat) : Int) < 97 := by omega
        have a2 : ¬ (122 : Int) < (l[p].toNat : Nat) := by omega
        simp [a1, a2]
        refine lT_mk (l.length - (p + 1)) (by omega) ⟨p + 1, rfl, hlt, by simp [t0], by simp [t6, ptr0], by rw [CH.get_put, if_pos rfl], hk.put (Nat.le_refl _) _, fun i hi hip => ?_⟩
        rcases Nat.lt_succ_iff_lt_or_eq.1 hip with h1 | rfl
        · exact hall i hi h1
        · exact hu
      · have a1 : ((l[p].toNat : Nat) : Int) < 97 := by omega
        have a2 : ¬ ((l[p].toNat : Nat) : Int) < 48 := by omega
        have a3 : ¬ (57 : Int) < (l[p].toNat : Nat) := by omega
        simp [a1, a2, a3]
        refine lT_mk (l.length - (p + 1)) (by omega) ⟨p + 1, rfl, hlt, by simp [t0], by simp [t6, ptr0], by rw [CH.get_put, if_pos rfl], hk.put (Nat.le_refl _) _, fun i hi hip => ?_⟩
        rcases Nat.lt_succ_iff_lt_or_eq.1 hip with h1 | rfl
        · exact hall i hi h1
        · exact hu
      · have a1 : ((l[p].toNat : Nat) : Int) < 97 := by omega
        have a2 : ¬ ((l[p].toNat : Nat) : Int) < 48 := by omega
        have a3 : (57 : Int) < (l[p].toNat : Nat) := by omega
        have a4 : ((l[p].toNat : Nat) : Int) = 95 := by omega
        simp [a4]
        refine lT_mk (l.length - (p + 1)) (by omega) ⟨p + 1, rfl, hlt, by simp [t0], by simp [t6, ptr0], by rw [CH.get_put, if_pos rfl], hk.put (Nat.le_refl _) _, fun i hi hip => ?_⟩
        rcases Nat.lt_succ_iff_lt_or_eq.1 hip with h1 | rfl
        · exact hall i hi h1
        · exact hu
    · have hc := cdecode_not hlt hn
      have hbad : ¬ NameP l := fun h => hn (h.1 _ (List.getElem_mem hlt))
      generalize (cdecode l p).1 = r at hc
      by_cases a1 : (r : Int) < 97
      · by_cases a2 : (r : Int) < 48
        · have a5 : ¬ (r : Int) = 95 := by omega
          simp [a1, a2, a5]
          exact ⟨_, rfl, by simp [hbad], hk.put (Nat.le_refl _) _⟩
        · have a3 : (57 : Int) < r := by omega
          have a5 : ¬ (r : Int) = 95 := by omega
          simp [a1, a2, a3, a5]
          exact ⟨_, rfl, by simp [hbad], hk.put (Nat.le_refl _) _⟩
      · have a4 : (122 : Int) < r := by omega
        have a2 : ¬ (r : Int) < 48 := by omega
        have a3 : (57 : Int) < r := by omega
        have a5 : ¬ (r : Int) = 95 := by omega
        simp [a1, a2, a3, a4, a5]
        exact ⟨_, rfl, by simp [hbad], hk.put (Nat.le_refl _) _⟩
  · have hall' : ∀ u ∈ l, nameB u := fun u hu => by
      obtain ⟨i, hi, rfl⟩ := List.getElem_of_mem hu
      exact hall i hi (by omega)
    simp [t6, ptr0, eNext_end hg hge, t0]
    by_cases a1 : (1 : Int) ≤ (l.length : Nat)
    · by_cases a2 : ((l.length : Nat) : Int) ≤ 64
      · simp [a1, a2, t0]
        exact ⟨_, rfl, by simp [NameP]; exact ⟨hall', by omega, by omega⟩, hk⟩
      · simp [a1, a2, t0]
        exact ⟨_, rfl, by simp [NameP]; intro _ _; omega, hk⟩
    · simp [a1, t0]
      exact ⟨_, rfl, by simp [NameP]; intro _ _; omega, hk⟩

/-! ### Find, May -/
theorem findL_ok {f : FuncId} (hf : HasF E I f findLF) {d : Nat} {c : Col} {s : List UInt8} {id : Nat} {h : CH} (hg : h.get id = some (fresh [.string (mkstr s)])) (hid : id < h.next) :
    Fc (ccall E I N (d + 1)) f [.agg ⟨[.string (mkstr c.1), .int .u8 (c.2 : Nat)]⟩, ptr0 id] h (BoolR (c.1 = s) h) := by
  refine hf.body (by rfl) (by simp [findLF]) fun τ hτ => ?_
  have g0 : τ 0 = .agg ⟨[.string (mkstr c.1), .int .u8 (c.2 : Nat)]⟩ := hτ 0 (by simp)
  have g1 : τ 1 = ptr0 id := hτ 1 (by simp)
  have hne : id ≠ h.next := by omega
  have hg2 : (h.add (fresh [.string (mkstr c.1), .int .u8 (c.2 : Nat)])).get id = some (fresh [.string (mkstr s)]) := by rw [get_add, if_neg hne]; exact hg
  have l1 : lVar E (h.add (fresh [.string (mkstr c.1), .int .u8 (c.2 : Nat)])) none (.pointer (some ⟨h.next, 0, some 0⟩)) = some (.string (mkstr c.1)) := lVar_fresh get_new rfl
  have l2 : lVar E (h.add (fresh [.string (mkstr c.1), .int .u8 (c.2 : Nat)])) none (.pointer (some ⟨id, 0, some 0⟩)) = some (.string (mkstr s)) := lVar_fresh hg2 rfl
  simp [findLF, g0, g1, ptr0, nBox, cells, l1, l2]
  exact ⟨_, rfl, by simp, Keep.add _ _⟩
/-- The first column of a name. -/
def FirstP (cols : List Col) (s : List UInt8) (r : Int) : Prop := (∃ i : Nat, r = i ∧ (∃ c, cols[i]? = some c ∧ c.1 = s) ∧ ∀ j c, j < i → cols[j]? = some c → c.1 ≠ s) ∨ (r = -1 ∧ ∀ (j : Nat) (c : Col), cols[j]? = some c → c.1 ≠ s)
/-- The loop of IndexFunc. -/
def IxI (cols : List Col) (s : List UInt8) (v g : Value) (h : CH) (m : Nat) (τ : Tau) (h' : CH) : Prop := ∃ j : Nat, m = cols.length - j ∧ j ≤ cols.length ∧ τ 0 = v ∧ τ 1 = g ∧ τ 7 = .int .i64 (cols.length : Nat) ∧ τ 8 = .int .i64 (j : Nat) ∧ Keep h h' ∧ ∀ i c, i < j → cols[i]? = some c → c.1 ≠ s
theorem ixCol_ok {f fl : FuncId} (hf : HasF E I f ixColF) (hfl : HasF E I fl findLF) {d : Nat} {v : Value} {cols : List Col} {s : List UInt8} {id : Nat} {h : CH} (hs : SlG E v cols.length 2 (colCells cols)) (hN : cols.length < N) (hI : cols.length ≤ maxI)
    (hg : h.get id = some (fresh [.string (mkstr s)])) (hid : id < h.next) :
    Fc (ccall E I N (d + 2)) f [v, .func (.func fl) #[] ⟨[ptr0 id]⟩] h (IntR (FirstP cols s) h) := by
  obtain ⟨a, C, rfl⟩ := hs.form
  refine hf.body (by rfl) (by simp [ixColF]) fun τ hτ => ?_
  have g0 : τ 0 = .slice a cols.length C := hτ 0 (by simp)
  have g1 : τ 1 = .func (.func fl) #[] ⟨[ptr0 id]⟩ := hτ 1 (by simp)
  simp [ixColF, g0]
  refine wT_loop (IxI cols s (.slice a cols.length C) (.func (.func fl) #[] ⟨[ptr0 id]⟩) h) cols.length hN ?_ ?_
  · exact ⟨0, by simp, by simp, by simp [g0], by simp [g1], by simp, by simp, .refl _, by simp⟩
  rintro m τ h' ⟨j, rfl, hj, t0, t1, t7, t8, hk, hall⟩
  rcases Nat.lt_or_ge j cols.length with hlt | hge
  · obtain ⟨b, o, C', cs, he, hgl, hp⟩ := hs.get hlt
    injection he with e1 e2 e3
    subst e1 e3
    have hc : cols[j]? = some cols[j] := List.getElem?_eq_getElem hlt
    have hl := lVar_gn (h := h') hgl hp (k := j * 2) (m := 2) (colCells_pair hc) (by rw [colCells_length]; omega)
    simp [t0, t1, t7, t8, hlt, pIaddr_mk hlt, hl, eCallv]
    refine eT_call (findL_ok hfl (s := s) (id := id) (h := h') (by rw [hk.2 id hid]; exact hg) (Nat.lt_of_lt_of_le hid hk.1)) fun v h2 ⟨bb, hv, hb, hk2⟩ => ?_
    subst hv
    cases bb with
    | true =>
      simp [t0, t1, t7, t8]
      exact ⟨_, rfl, .inl ⟨j, rfl, ⟨_, hc, hb.1 rfl⟩, hall⟩, hk.trans hk2⟩
    | false =>
      simp [t0, t1, t7, t8]
      have hadd : cwrap .i64 ((j : Int) + 1) = ((j + 1 : Nat) : Int) := by rw [wrap_i64] <;> unfold maxI at hI <;> omega
      refine lT_mk (cols.length - (j + 1)) (by omega) ⟨j + 1, rfl, hlt, by simp [t0], by simp [t1], by simp [t7], by simp [hadd], hk.trans hk2, fun i c hi hic => ?_⟩
      rcases Nat.lt_succ_iff_lt_or_eq.1 hi with h1 | rfl
      · exact hall i c h1 hic
      · rw [hc] at hic
        injection hic with hic
        subst hic
        exact fun h => by have := hb.2 h; cases this
  · have hjl : ¬ j < cols.length := by omega
    simp [t0, t1, t7, t8, hjl]
    exact ⟨_, rfl, .inr ⟨rfl, fun i c hic => hall i c (by have := (List.getElem?_eq_some_iff.1 hic).1; omega) hic⟩, hk⟩
theorem find_ok {f ix fl : FuncId} (hf : HasF E I f (findF ix fl)) (hix : HasF E I ix ixColF) (hfl : HasF E I fl findLF) {d : Nat} {v : Value} {cols : List Col} {s : List UInt8} {h : CH} (hs : SlG E v cols.length 2 (colCells cols)) (hN : cols.length < N) (hI : cols.length ≤ maxI) :
    Fc (ccall E I N (d + 3)) f [v, .string (mkstr s)] h (IntR (FirstP cols s) h) := by
  refine hf.body (by rfl) (by simp [findF]) fun τ hτ => ?_
  have g0 : τ 0 = v := hτ 0 (by simp)
  have g1 : τ 1 = .string (mkstr s) := hτ 1 (by simp)
  simp [findF, g0, g1, nBox, cells]
  refine eT_call (ixCol_ok hix hfl hs hN hI (id := h.next) (s := s) (h := h.add (fresh [.string (mkstr s)])) get_new (by simp)) fun v h2 ⟨i, hv, hi, hk⟩ => ?_
  subst hv
  simp
  exact ⟨_, rfl, hi, (Keep.add _ _).trans hk⟩
theorem putAt_all {c xs : List Value} (h : xs.length = c.length) : putAt c 0 xs = some xs := by
  unfold putAt
  rw [show Nat.ble (0 + xs.length) c.length = true by rw [Nat.ble_eq]; omega]
  simp [h]
/-- A store of all cells into what has just been made. -/
theorem eSt_new {h : CH} {id n : Nat} {z xs : List Value} {x : Value} (hg : h.get id = some (fresh z)) (hx : cells x = xs) (h1 : xs.length = n) (h2 : xs.length = z.length) (h3 : ones xs = true) :
    eSt h n (.pointer (some ⟨id, 0, some 0⟩)) x = some (.ret undef, h.put id (fresh xs)) := by
  have hb : Nat.beq xs.length n = true := by rw [Nat.beq_eq]; exact h1
  simp only [eSt, hx, hb, cond_true, cwrite, hg, fresh, Nat.beq_refl, Bool.true_and, h3, putAt_all h2, Option.map_some, outH]
/-- Columns that may be. -/
def MayP (cols : List Col) : Prop := (∀ (i : Nat) (c : Col), cols[i]? = some c → NameP c.1 ∧ 1 ≤ c.2 ∧ c.2 ≤ 3 ∧ ∀ (j : Nat) (c' : Col), j < i → cols[j]? = some c' → c'.1 ≠ c.1) ∧ 1 ≤ cols.length ∧ cols.length ≤ 256
def MayI (cols : List Col) (v : Value) (h : CH) (m : Nat) (τ : Tau) (h' : CH) : Prop := ∃ j : Nat, m = cols.length - j ∧ j ≤ cols.length ∧ τ 0 = v ∧ τ 5 = v ∧ τ 6 = .int .i64 (cols.length : Nat) ∧ τ 7 = .int .i64 (j : Nat) ∧ Keep h h' ∧
  ∀ (i : Nat) (c : Col), i < j → cols[i]? = some c → NameP c.1 ∧ 1 ≤ c.2 ∧ c.2 ≤ 3 ∧ ∀ (j : Nat) (c' : Col), j < i → cols[j]? = some c' → c'.1 ≠ c.1
theorem may_ok {f nm fd ix fl : FuncId} (hf : HasF E I f (mayF nm fd)) (hnm : HasF E I nm isNameF) (hfd : HasF E I fd (findF ix fl)) (hix : HasF E I ix ixColF) (hfl : HasF E I fl findLF) {d : Nat} {v : Value} {cols : List Col} {h : CH}
    (hs : SlG E v cols.length 2 (colCells cols)) (hN : cols.length < N) (hI : cols.length ≤ maxI) (hnl : ∀ c ∈ cols, c.1.length < N) :
    Fc (ccall E I N (d + 4)) f [v] h (BoolR (MayP cols) h) := by
  obtain ⟨a, C, rfl⟩ := hs.form
  refine hf.body (by rfl) (by simp [mayF]) fun τ hτ => ?_
  have g0 : τ 0 = .slice a cols.length C := hτ 0 (by simp)
  simp [mayF, g0]
  refine wT_loop (MayI cols (.slice a cols.length C) h) cols.length hN ?_ ?_
  · exact ⟨0, by simp, by simp, by simp [g0], by simp, by simp, by simp, .refl _, by simp⟩
  rintro m τ h' ⟨j, rfl, hj, t0, t5, t6, t7, hk, hall⟩
  rcases Nat.lt_or_ge j cols.length with hlt | hge
  · obtain ⟨b, o, C', cs, he, hgl, hp⟩ := hs.get hlt
    injection he with e1 e2 e3
    subst e1 e3
    have hc : cols[j]? = some cols[j] := List.getElem?_eq_getElem hlt
    have hl := fun h' => lVar_gn (E := E) (h := h') hgl hp (k := j * 2) (m := 2) (colCells_pair hc) (by rw [colCells_length]; omega)
    have hbad : ∀ {P : Prop}, ¬ (NameP cols[j].1 ∧ 1 ≤ cols[j].2 ∧ cols[j].2 ≤ 3 ∧ ∀ (i : Nat) (c' : Col), i < j → cols[i]? = some c' → c'.1 ≠ cols[j].1) → ¬ MayP cols := fun hn hm => hn (hm.1 j _ hc)
    generalize hcc : cols[j] = cj at *
    have hst : eSt (h'.add (fresh [.string ⟨#[]⟩, .int .u8 0])) 2 (.pointer (some ⟨h'.next, 0, some 0⟩)) (.agg ⟨[.string (mkstr cj.1), .int .u8 (cj.2 : Nat)]⟩) = some (.ret undef, (h'.add (fresh [.string ⟨#[]⟩, .int .u8 0])).put h'.next (fresh [.string (mkstr cj.1), .int .u8 (cj.2 : Nat)])) :=
      eSt_new get_new rfl rfl rfl rfl
    generalize hH : (h'.add (fresh [.string ⟨#[]⟩, .int .u8 0])).put h'.next (fresh [.string (mkstr cj.1), .int .u8 (cj.2 : Nat)]) = H1 at hst
    have hg1 : H1.get h'.next = some (fresh [.string (mkstr cj.1), .int .u8 (cj.2 : Nat)]) := by rw [← hH, CH.get_put, if_pos rfl]
    have hk1 : Keep h' H1 := by rw [← hH]; exact (Keep.add _ _).put (Nat.le_refl _) _
    have hn1 : h'.next < H1.next := by rw [← hH]; simp
    have l0 : ∀ H2, Keep H1 H2 → lVar E H2 none (.pointer (some ⟨h'.next, 0, some 0⟩)) = some (.string (mkstr cj.1)) := fun H2 hk2 => lVar_fresh ((hk2.2 _ hn1).trans hg1) rfl
    have l1 : ∀ H2, Keep H1 H2 → lVar E H2 none (.pointer (some ⟨h'.next, 1, some 0⟩)) = some (.int .u8 (cj.2 : Nat)) := fun H2 hk2 => lVar_fresh ((hk2.2 _ hn1).trans hg1) rfl
    simp [t0, t5, t6, t7, hlt, pIaddr_mk hlt, hl, ptr0, hst, l0 _ (.refl _)]
    refine eT_call (isName_ok hnm (h := H1) (l := cj.1) (hnl cj (by rw [← hcc]; exact List.getElem_mem hlt))) fun v h2 ⟨bb, hv, hb, hk2⟩ => ?_
    subst hv
    have hkk : Keep h h2 := (hk.trans hk1).trans hk2
    cases bb with
    | false =>
      have hx : ¬ NameP cj.1 := fun h => by have := hb.2 h; cases this
      simp [t0, t5, t6, t7]
      exact ⟨_, rfl, by simp; exact hbad (P := True) fun h => hx h.1, hkk⟩
    | true =>
      have hnm' := hb.1 rfl
      by_cases k1 : ((cj.2 : Nat) : Int) < 1
      · simp [t0, t5, t6, t7, l1 _ hk2, k1]
        exact ⟨_, rfl, by simp; exact hbad (P := True) fun h => by omega, hkk⟩
      · by_cases k2 : (3 : Int) < (cj.2 : Nat)
        · simp [t0, t5, t6, t7, l1 _ hk2, k1, k2]
          exact ⟨_, rfl, by simp; exact hbad (P := True) fun h => by omega, hkk⟩
        · simp [t0, t5, t6, t7, l0 _ hk2, l1 _ hk2, k1, k2]
          refine eT_call (find_ok hfd hix hfl hs hN hI (s := cj.1) (h := h2)) fun v h3 ⟨i, hv, hi, hk3⟩ => ?_
          subst hv
          by_cases hij : i = (j : Int)
          · subst hij
            simp [t0, t5, t6, t7]
            have hadd : cwrap .i64 ((j : Int) + 1) = ((j + 1 : Nat) : Int) := by rw [wrap_i64] <;> unfold maxI at hI <;> omega
            refine lT_mk (cols.length - (j + 1)) (by omega) ⟨j + 1, rfl, hlt, by simp [t0], by simp [t5], by simp [t6], by simp [hadd], hkk.trans hk3, fun i c hi' hic => ?_⟩
            rcases Nat.lt_succ_iff_lt_or_eq.1 hi' with h1 | rfl
            · exact hall i c h1 hic
            · rw [hc] at hic
              injection hic with hic
              subst hic
              refine ⟨hnm', by omega, by omega, ?_⟩
              rcases hi with ⟨i', hi1, _, hi3⟩ | ⟨hi1, _⟩
              · obtain rfl : i = i' := by omega
                exact fun j c' hj hc' => hi3 j c' hj hc'
              · omega
          · simp [t0, t5, t6, t7, hij]
            refine ⟨_, rfl, ?_, hkk.trans hk3⟩
            simp
            refine hbad (P := True) fun ⟨_, _, _, hno⟩ => ?_
            rcases hi with ⟨i', hi1, ⟨c', hc', hc'e⟩, hi3⟩ | ⟨hi1, hi2⟩
            · rcases Nat.lt_trichotomy i' j with h1 | h1 | h1
              · exact hno i' c' h1 hc' hc'e
              · subst h1; exact hij hi1
              · exact hi3 j _ h1 hc rfl
            · exact hi2 j _ hc rfl
  · have hjl : ¬ j < cols.length := by omega
    have hall' : ∀ (i : Nat) (c : Col), cols[i]? = some c → NameP c.1 ∧ 1 ≤ c.2 ∧ c.2 ≤ 3 ∧ ∀ (j : Nat) (c' : Col), j < i → cols[j]? = some c' → c'.1 ≠ c.1 := fun i c hic => hall i c (by have := (List.getElem?_eq_some_iff.1 hic).1; omega) hic
    by_cases a1 : (1 : Int) ≤ (cols.length : Nat)
    · by_cases a2 : ((cols.length : Nat) : Int) ≤ 256
      · simp [t0, t5, t6, t7, hjl, a1, a2]
        exact ⟨_, rfl, by simp; exact ⟨hall', by omega, by omega⟩, hk⟩
      · simp [t0, t5, t6, t7, hjl, a1, a2]
        exact ⟨_, rfl, by simp; intro hm; have := hm.2.2; omega, hk⟩
    · simp [t0, t5, t6, t7, hjl, a1]
      exact ⟨_, rfl, by simp; intro hm; have := hm.2.1; omega, hk⟩

/-! ### flags, Contains -/
def FlagP (cols : List Col) (fl : List Bool) : Prop := (∀ i : Nat, fl[i]? = some true → DimP cols (i : Nat)) ∧ (fl.length = 0 ∨ fl.length = cols.length)
def FlagI (cols : List Col) (fl : List Bool) (v u : Value) (h : CH) (m : Nat) (τ : Tau) (h' : CH) : Prop := ∃ j : Nat, m = fl.length - j ∧ j ≤ fl.length ∧ τ 0 = v ∧ τ 1 = u ∧ τ 7 = u ∧ τ 8 = .int .i64 (fl.length : Nat) ∧ τ 9 = .int .i64 (j : Nat) ∧ Keep h h' ∧ ∀ i : Nat, i < j → fl[i]? = some true → DimP cols (i : Nat)
theorem flagged_ok {f dm : FuncId} (hf : HasF E I f (flaggedF dm)) (hdm : HasF E I dm dimF) {d : Nat} {v u : Value} {cols : List Col} {fl : List Bool} {h : CH}
    (hs : SlG E v cols.length 2 (colCells cols)) (hu : SlG E u fl.length 1 (fl.map .bool)) (hN : fl.length < N) (hI : fl.length ≤ maxI) :
    Fc (ccall E I N (d + 2)) f [v, u] h (BoolR (FlagP cols fl) h) := by
  obtain ⟨a, C, rfl⟩ := hs.form
  obtain ⟨a2, C2, rfl⟩ := hu.form
  refine hf.body (by rfl) (by simp [flaggedF]) fun τ hτ => ?_
  have g0 : τ 0 = .slice a cols.length C := hτ 0 (by simp)
  have g1 : τ 1 = .slice a2 fl.length C2 := hτ 1 (by simp)
  simp [flaggedF, g0, g1]
  refine wT_loop (FlagI cols fl (.slice a cols.length C) (.slice a2 fl.length C2) h) fl.length hN ?_ ?_
  · exact ⟨0, by simp, by simp, by simp [g0], by simp [g1], by simp, by simp, by simp, .refl _, by simp⟩
  rintro m τ h' ⟨j, rfl, hj, t0, t1, t7, t8, t9, hk, hall⟩
  rcases Nat.lt_or_ge j fl.length with hlt | hge
  · obtain ⟨b, o, C', cs, he, hgl, hp⟩ := hu.get hlt
    injection he with e1 e2 e3
    subst e1 e3
    have hl := fun h' => lVar_g1 (E := E) (h := h') hgl hp (k := j) (v := .bool fl[j]) (by simp [hlt])
    have hjf : fl[j]? = some fl[j] := List.getElem?_eq_getElem hlt
    have hadd : cwrap .i64 ((j : Int) + 1) = ((j + 1 : Nat) : Int) := by rw [wrap_i64] <;> unfold maxI at hI <;> omega
    cases hfj : fl[j] with
    | false =>
      rw [hfj] at hl hjf
      simp [t0, t1, t7, t8, t9, hlt, pIaddr_mk hlt, hl]
      refine lT_mk (fl.length - (j + 1)) (by omega) ⟨j + 1, rfl, hlt, by simp [t0], by simp [t1], by simp [t7], by simp [t8], by simp [hadd], hk, fun i hi hif => ?_⟩
      rcases Nat.lt_succ_iff_lt_or_eq.1 hi with h1 | rfl
      · exact hall i h1 hif
      · rw [hjf] at hif; cases hif
    | true =>
      rw [hfj] at hl hjf
      simp [t0, t1, t7, t8, t9, hlt, pIaddr_mk hlt, hl]
      refine eT_call (dim_ok hdm hs) fun v h2 ⟨bb, hv, hb, hk2⟩ => ?_
      subst hv
      cases bb with
      | true =>
        simp [t0, t1, t7, t8, t9]
        refine lT_mk (fl.length - (j + 1)) (by omega) ⟨j + 1, rfl, hlt, by simp [t0], by simp [t1], by simp [t7], by simp [t8], by simp [hadd], hk.trans hk2, fun i hi hif => ?_⟩
        rcases Nat.lt_succ_iff_lt_or_eq.1 hi with h1 | rfl
        · exact hall i h1 hif
        · exact hb.1 rfl
      | false =>
        simp [t0, t1, t7, t8, t9]
        refine ⟨_, rfl, ?_, hk.trans hk2⟩
        have hno : ¬ FlagP cols fl := fun hm => by have := hb.2 (hm.1 j hjf); cases this
        simp [hno]
  · have hjl : ¬ j < fl.length := by omega
    have hall' : ∀ i : Nat, fl[i]? = some true → DimP cols (i : Nat) := fun i hif => hall i (by have := (List.getElem?_eq_some_iff.1 hif).1; omega) hif
    have hP : FlagP cols fl ↔ (fl.length = 0 ∨ fl.length = cols.length) := ⟨fun h => h.2, fun h => ⟨hall', h⟩⟩
    have hj0 : ¬ ((j : Int) < 0) := by omega
    clear hs hu g1 g0 hall hall'
    generalize fl.length = n at *
    generalize cols.length = c at *
    by_cases a1 : n = 0
    · simp [t0, t1, t7, t8, t9, hjl, a1, hj0]
      exact ⟨_, rfl, by simp [hP, a1], hk⟩
    · by_cases a2 : n = c
      · subst a2
        simp [t0, t1, t7, t8, t9, hjl, a1]
        exact ⟨_, rfl, by simp [hP], hk⟩
      · simp [t0, t1, t7, t8, t9, hjl, a1, a2]
        exact ⟨_, rfl, by simp [hP, a1, a2] <;> omega, hk⟩
def AtP (xs : List Int) (x : Int) (r : Int) : Prop := (∃ i : Nat, r = i ∧ xs[i]? = some x) ∨ (r = -1 ∧ ∀ i : Nat, xs[i]? ≠ some x)
def IxIntI (xs : List Int) (x : Int) (v : Value) (h : CH) (m : Nat) (τ : Tau) (h' : CH) : Prop := ∃ j : Nat, m = xs.length - j ∧ j ≤ xs.length ∧ τ 0 = v ∧ τ 1 = .int .i64 x ∧ τ 7 = .int .i64 (xs.length : Nat) ∧ τ 8 = .int .i64 (j : Nat) ∧ Keep h h' ∧ ∀ i : Nat, i < j → xs[i]? ≠ some x
theorem ixInt_ok {f : FuncId} (hf : HasF E I f ixIntF) {d : Nat} {v : Value} {xs : List Int} {x : Int} {h : CH} (hs : SlG E v xs.length 1 (xs.map (.int .i64))) (hN : xs.length < N) (hI : xs.length ≤ maxI) :
    Fc (ccall E I N (d + 1)) f [v, .int .i64 x] h (IntR (AtP xs x) h) := by
  obtain ⟨a, C, rfl⟩ := hs.form
  refine hf.body (by rfl) (by simp [ixIntF]) fun τ hτ => ?_
  have g0 : τ 0 = .slice a xs.length C := hτ 0 (by simp)
  have g1 : τ 1 = .int .i64 x := hτ 1 (by simp)
  simp [ixIntF, g0]
  refine wT_loop (IxIntI xs x (.slice a xs.length C) h) xs.length hN ?_ ?_
  · exact ⟨0, by simp, by simp, by simp [g0], by simp [g1], by simp, by simp, .refl _, by simp⟩
  rintro m τ h' ⟨j, rfl, hj, t0, t1, t7, t8, hk, hall⟩
  rcases Nat.lt_or_ge j xs.length with hlt | hge
  · obtain ⟨b, o, C', cs, he, hgl, hp⟩ := hs.get hlt
    injection he with e1 e2 e3
    subst e1 e3
    have hc : xs[j]? = some xs[j] := List.getElem?_eq_getElem hlt
    have hl := fun h' => lVar_g1 (E := E) (h := h') hgl hp (k := j) (v := .int .i64 xs[j]) (by simp [hlt])
    have hadd : cwrap .i64 ((j : Int) + 1) = ((j + 1 : Nat) : Int) := by rw [wrap_i64] <;> unfold maxI at hI <;> omega
    by_cases hx : x = xs[j]
    · simp [t0, t1, t7, t8, hlt, pIaddr_mk hlt, hl, hx]
      exact ⟨_, rfl, .inl ⟨j, rfl, by rw [hc]⟩, hk⟩
    · simp [t0, t1, t7, t8, hlt, pIaddr_mk hlt, hl, hx]
      refine lT_mk (xs.length - (j + 1)) (by omega) ⟨j + 1, rfl, hlt, by simp [t0], by simp [t1], by simp [t7], by simp [hadd], hk, fun i hi => ?_⟩
      rcases Nat.lt_succ_iff_lt_or_eq.1 hi with h1 | rfl
      · exact hall i h1
      · rw [hc]; exact fun e => hx (by injection e with e; exact e.symm)
  · have hjl : ¬ j < xs.length := by omega
    simp [t0, t1, t7, t8, hjl]
    exact ⟨_, rfl, .inr ⟨rfl, fun i hic => hall i (by have := (List.getElem?_eq_some_iff.1 hic).1; omega) hic⟩, hk⟩
theorem hasInt_ok {f ix : FuncId} (hf : HasF E I f (hasIntF ix)) (hix : HasF E I ix ixIntF) {d : Nat} {v : Value} {xs : List Int} {x : Int} {h : CH} (hs : SlG E v xs.length 1 (xs.map (.int .i64))) (hN : xs.length < N) (hI : xs.length ≤ maxI) :
    Fc (ccall E I N (d + 2)) f [v, .int .i64 x] h (BoolR (x ∈ xs) h) := by
  refine hf.body (by rfl) (by simp [hasIntF]) fun τ hτ => ?_
  have g0 : τ 0 = v := hτ 0 (by simp)
  have g1 : τ 1 = .int .i64 x := hτ 1 (by simp)
  simp [hasIntF, g0, g1]
  refine eT_call (ixInt_ok hix hs hN hI) fun v h2 ⟨i, hv, hi, hk2⟩ => ?_
  subst hv
  simp
  refine ⟨_, rfl, ?_, hk2⟩
  simp
  rcases hi with ⟨k, rfl, hk⟩ | ⟨rfl, hno⟩
  · exact ⟨fun _ => List.mem_of_getElem? hk, fun _ => by omega⟩
  · exact ⟨fun h => by omega, fun h => by obtain ⟨i, hi⟩ := List.getElem?_of_mem h; exact absurd hi (hno i)⟩

/-! ### Fits -/
/-- A configuration. -/
structure Conf where
  sort : Int
  inv : List Bool
  rng : List Bool
  split : List Int
  leaf : Int
/-- Its cells. -/
structure ConfC (E : Env) (c : Conf) (iv rv sv : Value) : Prop where
  inv : SlG E iv c.inv.length 1 (c.inv.map .bool)
  rng : SlG E rv c.rng.length 1 (c.rng.map .bool)
  split : SlG E sv c.split.length 1 (c.split.map (.int .i64))
def SplitP (cols : List Col) (sp : List Int) : Prop := ∀ (i : Nat) (x : Int), sp[i]? = some x → DimP cols x ∧ x ∉ sp.take i
def FitsP (cols : List Col) (c : Conf) : Prop := MayP cols ∧ (c.sort ≠ -1 → DimP cols c.sort) ∧ FlagP cols c.inv ∧ FlagP cols c.rng ∧ SplitP cols c.split ∧ c.split.length ≤ 8 ∧ 1 ≤ c.leaf ∧ c.leaf ≤ 1000000
theorem SlG.take {v : Value} {n : Nat} {xs : List Value} {b o C : Nat} (hs : SlG E v n 1 xs) (hv : v = .slice (some ⟨b, o, none⟩) n C) {j : Nat} (hj : j ≤ n) (C' : Nat) : SlG E (.slice (some ⟨b, o, none⟩) j C') j 1 (xs.take j) := by
  refine ⟨by rw [List.length_take, hs.1]; omega, ?_⟩
  rcases hs.2 with ⟨h, _⟩ | ⟨b', o', C'', h, h0⟩
  · rw [h] at hv; cases hv
  · rw [h] at hv
    injection hv with e1 e2 e3
    injection e1 with e1
    injection e1 with e1 e4 e5
    subst e1 e4
    refine .inr ⟨_, _, _, rfl, ?_⟩
    rcases h0 with h0 | ⟨cs, hg, hp⟩
    · exact .inl (by omega)
    · exact .inr ⟨cs, hg, (List.take_prefix _ _).trans hp⟩
def FitsI (cols : List Col) (c : Conf) (v iv rv sv : Value) (id : Nat) (h : CH) (m : Nat) (τ : Tau) (h' : CH) : Prop := ∃ j : Nat, m = c.split.length - j ∧ j ≤ c.split.length ∧ τ 0 = v ∧ τ 3 = ptr0 id ∧ τ 37 = sv ∧ τ 38 = .int .i64 (c.split.length : Nat) ∧ τ 39 = .int .i64 (j : Nat) ∧ Keep h h' ∧
  h'.get id = some (fresh [.int .i64 c.sort, iv, rv, sv, .int .i64 c.leaf]) ∧ id < h'.next ∧ ∀ (i : Nat) (x : Int), i < j → c.split[i]? = some x → DimP cols x ∧ x ∉ c.split.take i
theorem pSl_hi {sz b o n C j : Nat} {t : Option Nat} (hj : j ≤ n) : ∃ C', pSl sz (.slice (some ⟨b, o, t⟩) n C) none (some (.int .i64 (j : Nat))) none = some (.slice (some ⟨b, o, t⟩) j C') := by
  have hb : cbound (some (.int .i64 (j : Nat))) n n = some j := by
    show (bif Nat.ble j n then some j else none) = _
    rw [show Nat.ble j n = true by rw [Nat.ble_eq]; exact hj]; rfl
  have h0 : cbound none j 0 = some 0 := rfl
  exact ⟨_, by simp only [pSl, csl, hb, h0, Nat.zero_mul, amv, Option.map_some, Nat.add_zero, Nat.sub_zero, mkSl]; rfl⟩
theorem fitsRest_ok {dm hi xi : FuncId} (hdm : HasF E I dm dimF) (hhi : HasF E I hi (hasIntF xi)) (hxi : HasF E I xi ixIntF) {d : Nat} {v iv rv sv : Value} {cols : List Col} {c : Conf} {h : CH} {id : Nat}
    (hs : SlG E v cols.length 2 (colCells cols)) (hc : ConfC E c iv rv sv) (hN3 : c.split.length < N) (hI3 : c.split.length ≤ maxI) {τ : Tau} {H : CH} {P : Prop} (hP : P ↔ SplitP cols c.split ∧ c.split.length ≤ 8 ∧ 1 ≤ c.leaf ∧ c.leaf ≤ 1000000)
    (t0 : τ 0 = v) (t3 : τ 3 = ptr0 id) (hid : id < H.next) (hk : Keep h H) (hg : H.get id = some (fresh [.int .i64 c.sort, iv, rv, sv, .int .i64 c.leaf])) :
    wT E (ccall E I N (d + 2)) N (fitsRest dm hi) τ H (fT E [CRes.tmp 4] (BoolR P h)) := by
  have l3 : ∀ H2, H2.get id = some (fresh [.int .i64 c.sort, iv, rv, sv, .int .i64 c.leaf]) → lVar E H2 none (.pointer (some ⟨id, 3, some 0⟩)) = some sv := fun H2 hg => lVar_fresh hg rfl
  have l4 : ∀ H2, H2.get id = some (fresh [.int .i64 c.sort, iv, rv, sv, .int .i64 c.leaf]) → lVar E H2 none (.pointer (some ⟨id, 4, some 0⟩)) = some (.int .i64 c.leaf) := fun H2 hg => lVar_fresh hg rfl
  obtain ⟨a, C, hsv⟩ := hc.split.form
  have hsp := hc.split
  subst hsv
  simp [fitsRest, t0, t3, ptr0, l3 _ hg]
  refine wT_loop (FitsI cols c v iv rv (.slice a c.split.length C) id h) c.split.length hN3 ?_ ?_
  · exact ⟨0, by simp, by simp, by simp [t0], by simp [t3, ptr0], by simp, by simp, by simp, hk, hg, hid, by simp⟩
  rintro m τ h' ⟨j, rfl, hj, t0, t3, t37, t38, t39, hk, hg, hid, hall⟩
  rcases Nat.lt_or_ge j c.split.length with hlt | hge
  · obtain ⟨b, o, C', cs, he, hgl, hp⟩ := hsp.get hlt
    injection he with e1 e2 e3
    subst e1 e3
    have hl := fun h' => lVar_g1 (E := E) (h := h') hgl hp (k := j) (v := .int .i64 c.split[j]) (by simp [hlt])
    have hjx : c.split[j]? = some c.split[j] := List.getElem?_eq_getElem hlt
    have hadd : cwrap .i64 ((j : Int) + 1) = ((j + 1 : Nat) : Int) := by rw [wrap_i64] <;> unfold maxI at hI3 <;> omega
    generalize c.split[j] = x at *
    simp [t0, t3, ptr0, t37, t38, t39, hlt, pIaddr_mk hlt, hl]
    refine eT_call (dim_ok hdm hs) fun v2 h2 ⟨bb, hv, hb, hk2⟩ => ?_
    subst hv
    cases bb with
    | false =>
      simp [t0, t3, ptr0, t37, t38, t39]
      have hno : ¬ P := fun hm => by have := hb.2 ((hP.1 hm).1 j x hjx).1; cases this
      exact ⟨_, rfl, by simp [hno], hk.trans hk2⟩
    | true =>
      have hg2 := (hk2.2 _ hid).trans hg
      obtain ⟨C2, hsl⟩ := pSl_hi (sz := 1) (b := b) (o := o) (n := c.split.length) (C := C) (t := none) (j := j) (by omega)
      simp [t0, t3, ptr0, t37, t38, t39, l3 _ hg2, hsl]
      have hst := hsp.take rfl hj C2
      rw [← List.map_take] at hst
      have hlen : (c.split.take j).length = j := by rw [List.length_take]; omega
      rw [← hlen] at hst
      rw [hlen] at hst
      refine eT_call (hasInt_ok hhi hxi (xs := c.split.take j) (x := x) (h := h2) (by rw [hlen]; exact hst) (by omega) (by omega)) fun v3 h3 ⟨bb, hv, hb3, hk3⟩ => ?_
      subst hv
      cases bb with
      | true =>
        simp [t0, t3, ptr0, t37, t38, t39]
        have hno : ¬ P := fun hm => ((hP.1 hm).1 j x hjx).2 (hb3.1 rfl)
        exact ⟨_, rfl, by simp [hno], (hk.trans hk2).trans hk3⟩
      | false =>
        simp [t0, t3, ptr0, t37, t38, t39]
        refine lT_mk (c.split.length - (j + 1)) (by omega) ⟨j + 1, rfl, hlt, by simp [t0], by simp [t3, ptr0], by simp [t37], by simp [t38], by simp [hadd], (hk.trans hk2).trans hk3, (hk3.2 _ (Nat.lt_of_lt_of_le hid hk2.1)).trans hg2, Nat.lt_of_lt_of_le (Nat.lt_of_lt_of_le hid hk2.1) hk3.1, fun i y hi hiy => ?_⟩
        rcases Nat.lt_succ_iff_lt_or_eq.1 hi with h1 | rfl
        · exact hall i y h1 hiy
        · rw [hjx] at hiy
          injection hiy with hiy
          subst hiy
          exact ⟨hb.1 rfl, fun h => by have := hb3.2 h; cases this⟩
  · have hjl : ¬ j < c.split.length := by omega
    have hall' : SplitP cols c.split := fun i x hix => hall i x (by have := (List.getElem?_eq_some_iff.1 hix).1; omega) hix
    have hP' : P ↔ c.split.length ≤ 8 ∧ 1 ≤ c.leaf ∧ c.leaf ≤ 1000000 := hP.trans ⟨fun h => h.2, fun h => ⟨hall', h⟩⟩
    by_cases a1 : ((c.split.length : Nat) : Int) ≤ 8
    · by_cases a2 : 1 ≤ c.leaf
      · by_cases a3 : c.leaf ≤ 1000000
        · simp [t0, t3, ptr0, t37, t38, t39, hjl, l3 _ hg, l4 _ hg, a1, a2, a3]
          exact ⟨_, rfl, by rw [hP']; simp; omega, hk⟩
        · simp [t0, t3, ptr0, t37, t38, t39, hjl, l3 _ hg, l4 _ hg, a1, a2, a3]
          exact ⟨_, rfl, by rw [hP']; simp; omega, hk⟩
      · simp [t0, t3, ptr0, t37, t38, t39, hjl, l3 _ hg, l4 _ hg, a1, a2]
        exact ⟨_, rfl, by rw [hP']; simp; omega, hk⟩
    · simp [t0, t3, ptr0, t37, t38, t39, hjl, l3 _ hg, l4 _ hg, a1]
      exact ⟨_, rfl, by rw [hP']; simp; omega, hk⟩
theorem fits_ok {f my dm fg hi nm fd ix fl xi : FuncId} (hf : HasF E I f (fitsF my dm fg hi)) (hmy : HasF E I my (mayF nm fd)) (hnm : HasF E I nm isNameF) (hfd : HasF E I fd (findF ix fl)) (hix : HasF E I ix ixColF) (hfl : HasF E I fl findLF)
    (hdm : HasF E I dm dimF) (hfg : HasF E I fg (flaggedF dm)) (hhi : HasF E I hi (hasIntF xi)) (hxi : HasF E I xi ixIntF) {d : Nat} {v iv rv sv : Value} {cols : List Col} {c : Conf} {h : CH}
    (hs : SlG E v cols.length 2 (colCells cols)) (hc : ConfC E c iv rv sv) (hN : cols.length < N) (hI : cols.length ≤ maxI) (hnl : ∀ c ∈ cols, c.1.length < N)
    (hN1 : c.inv.length < N) (hI1 : c.inv.length ≤ maxI) (hN2 : c.rng.length < N) (hI2 : c.rng.length ≤ maxI) (hN3 : c.split.length < N) (hI3 : c.split.length ≤ maxI) :
    Fc (ccall E I N (d + 5)) f [v, .agg ⟨[.int .i64 c.sort, iv, rv, sv, .int .i64 c.leaf]⟩] h (BoolR (FitsP cols c) h) := by
  refine hf.body (by rfl) (by simp [fitsF]) fun τ hτ => ?_
  have g0 : τ 0 = v := hτ 0 (by simp)
  have g1 : τ 1 = .agg ⟨[.int .i64 c.sort, iv, rv, sv, .int .i64 c.leaf]⟩ := hτ 1 (by simp)
  simp [fitsF, g0, g1, nBox, cells]
  generalize hH : h.add (fresh [.int .i64 c.sort, iv, rv, sv, .int .i64 c.leaf]) = H1
  have hg1 : H1.get h.next = some (fresh [.int .i64 c.sort, iv, rv, sv, .int .i64 c.leaf]) := by rw [← hH]; exact get_new
  have hk1 : Keep h H1 := by rw [← hH]; exact Keep.add _ _
  have hn1 : h.next < H1.next := by rw [← hH]; simp
  have l0 : ∀ H2, H2.get h.next = some (fresh [.int .i64 c.sort, iv, rv, sv, .int .i64 c.leaf]) → lVar E H2 none (.pointer (some ⟨h.next, 0, some 0⟩)) = some (.int .i64 c.sort) := fun H2 hg => lVar_fresh hg rfl
  have l1 : ∀ H2, H2.get h.next = some (fresh [.int .i64 c.sort, iv, rv, sv, .int .i64 c.leaf]) → lVar E H2 none (.pointer (some ⟨h.next, 1, some 0⟩)) = some iv := fun H2 hg => lVar_fresh hg rfl
  have l2 : ∀ H2, H2.get h.next = some (fresh [.int .i64 c.sort, iv, rv, sv, .int .i64 c.leaf]) → lVar E H2 none (.pointer (some ⟨h.next, 2, some 0⟩)) = some rv := fun H2 hg => lVar_fresh hg rfl
  refine eT_call (may_ok (d := d) hmy hnm hfd hix hfl hs hN hI hnl) fun v2 h2 ⟨bb, hv, hb, hk2⟩ => ?_
  subst hv
  have hg2 := (hk2.2 _ hn1).trans hg1
  have hn2 := Nat.lt_of_lt_of_le hn1 hk2.1
  cases bb with
  | false =>
    have hno : ¬ FitsP cols c := fun hm => by have := hb.2 hm.1; cases this
    simp [g0]
    exact ⟨_, rfl, by simp [hno], hk1.trans hk2⟩
  | true =>
    have hmay := hb.1 rfl
    by_cases hsort : c.sort = -1
    · simp [g0, ptr0, l0 _ hg2, l1 _ hg2, hsort]
      have hdim : c.sort ≠ -1 → DimP cols c.sort := fun h => absurd hsort h
      refine eT_call (flagged_ok (d := d + 2) hfg hdm hs hc.inv hN1 hI1) fun v4 h4 ⟨bb, hv, hb4, hk4⟩ => ?_
      subst hv
      have hk2 := hk2.trans hk4
      have hg2 := (hk2.2 _ hn1).trans hg1
      have hn2 := Nat.lt_of_lt_of_le hn1 hk2.1
      cases bb with
      | false =>
        have hno : ¬ FitsP cols c := fun hm => by have := hb4.2 hm.2.2.1; cases this
        simp [g0]
        exact ⟨_, rfl, by simp [hno], hk1.trans hk2⟩
      | true =>
        simp [g0, ptr0, l2 _ hg2]
        refine eT_call (flagged_ok (d := d + 2) hfg hdm hs hc.rng hN2 hI2) fun v5 h5 ⟨bb, hv, hb5, hk5⟩ => ?_
        subst hv
        have hk2 := hk2.trans hk5
        have hg2 := (hk2.2 _ hn1).trans hg1
        have hn2 := Nat.lt_of_lt_of_le hn1 hk2.1
        cases bb with
        | false =>
          have hno : ¬ FitsP cols c := fun hm => by have := hb5.2 hm.2.2.2.1; cases this
          simp [g0]
          exact ⟨_, rfl, by simp [hno], hk1.trans hk2⟩
        | true =>
          simp [g0]
          exact fitsRest_ok (d := d + 2) hdm hhi hxi hs hc hN3 hI3 ⟨fun hm => hm.2.2.2.2, fun hm => ⟨hmay, hdim, hb4.1 rfl, hb5.1 rfl, hm⟩⟩ (by simp [g0]) (by simp [ptr0]) hn2 (hk1.trans hk2) hg2
    · simp [g0, ptr0, l0 _ hg2, l1 _ hg2, hsort]
      refine eT_call (dim_ok (d := d + 3) hdm hs) fun v3 h3 ⟨bb, hv, hb3, hk3⟩ => ?_
      subst hv
      have hk2 := hk2.trans hk3
      have hg2 := (hk2.2 _ hn1).trans hg1
      have hn2 := Nat.lt_of_lt_of_le hn1 hk2.1
      cases bb with
      | false =>
        have hno : ¬ FitsP cols c := fun hm => by have := hb3.2 (hm.2.1 hsort); cases this
        simp [g0]
        exact ⟨_, rfl, by simp [hno], hk1.trans hk2⟩
      | true =>
        have hdim : c.sort ≠ -1 → DimP cols c.sort := fun _ => hb3.1 rfl
        simp [g0, ptr0, l1 _ hg2]
        refine eT_call (flagged_ok (d := d + 2) hfg hdm hs hc.inv hN1 hI1) fun v4 h4 ⟨bb, hv, hb4, hk4⟩ => ?_
        subst hv
        have hk2 := hk2.trans hk4
        have hg2 := (hk2.2 _ hn1).trans hg1
        have hn2 := Nat.lt_of_lt_of_le hn1 hk2.1
        cases bb with
        | false =>
          have hno : ¬ FitsP cols c := fun hm => by have := hb4.2 hm.2.2.1; cases this
          simp [g0]
          exact ⟨_, rfl, by simp [hno], hk1.trans hk2⟩
        | true =>
          simp [g0, ptr0, l2 _ hg2]
          refine eT_call (flagged_ok (d := d + 2) hfg hdm hs hc.rng hN2 hI2) fun v5 h5 ⟨bb, hv, hb5, hk5⟩ => ?_
          subst hv
          have hk2 := hk2.trans hk5
          have hg2 := (hk2.2 _ hn1).trans hg1
          have hn2 := Nat.lt_of_lt_of_le hn1 hk2.1
          cases bb with
          | false =>
            have hno : ¬ FitsP cols c := fun hm => by have := hb5.2 hm.2.2.2.1; cases this
            simp [g0]
            exact ⟨_, rfl, by simp [hno], hk1.trans hk2⟩
          | true =>
            simp [g0]
            exact fitsRest_ok (d := d + 2) hdm hhi hxi hs hc hN3 hI3 ⟨fun hm => hm.2.2.2.2, fun hm => ⟨hmay, hdim, hb4.1 rfl, hb5.1 rfl, hm⟩⟩ (by simp [g0]) (by simp [ptr0]) hn2 (hk1.trans hk2) hg2
end Go.Cl
