/-
  fieldfarelaw7.MetricTurn in the machine: it answers true. No condition.
-/
import Derived.Test.YtaegmplbkbaniaaGreatDoorOwn
import Derived.Test.YtaegmplbkbaniaaGreatDoorMtp
import Derived.Test.YtaegmplbkbaniaaGreatDoorVed
set_option linter.all false
namespace Go.Proofs.YtaegmplbkbaniaaGreatDoor
open Go
attribute [local irreducible] VO VC VD VD1 V1 nx nd ndr sq cIf gO oQ oP oA oC oV oIf oB fin rd' outB WC WF WO WD W1
set_option maxRecDepth 100000
/-! ### 10 -/
abbrev r10_0 : List Lo := [
  ⟨(some 8), (.p (.mv (.c (.bool false)))), none⟩]
abbrev r10_1 : List Lo := [
  ⟨(some 18), (.call (.f 18) []), none⟩,
  ⟨(some 9), (.p (.mv (.t 18))), none⟩]
abbrev r10_2 : List Lo := [
  ⟨(some 19), (.p (.mv (.t 9))), none⟩,
  ⟨(some 20), (.p (.un .not (.t 19))), none⟩]
abbrev r10_3 : List Lo := [
  ⟨(some 8), (.p (.mv (.c (.bool false)))), none⟩]
abbrev r10_4 : List Lo := [
  ⟨(some 21), (.p (.mv (.t 3))), none⟩,
  ⟨(some 22), (.p (.bin .rem 21 (.t 21) (.c (.int .i32 9)))), none⟩,
  ⟨(some 3), (.p (.mv (.t 22))), none⟩]
abbrev d10_5 : List Dl := [
  ⟨⟨(some 23), (.a (.mksl 38 (.c (.int .i64 4)) (.c (.int .i64 4)))), none⟩, 0, 0, 0, false, [], []⟩,
  ⟨⟨(some 24), (.a (.mksl 38 (.c (.int .i64 4)) (.c (.int .i64 4)))), none⟩, 1, 1, 0, false, [], []⟩,
  ⟨⟨(some 25), (.a (.mksl 38 (.c (.int .i64 4)) (.c (.int .i64 4)))), none⟩, 2, 2, 0, false, [], []⟩,
  ⟨⟨(some 10), (.p (.mv (.t 23))), none⟩, 3, 3, 0, false, [], [23]⟩,
  ⟨⟨(some 11), (.p (.mv (.t 24))), none⟩, 4, 3, 0, false, [], [24]⟩,
  ⟨⟨(some 12), (.p (.mv (.t 25))), none⟩, 5, 3, 0, false, [], [25]⟩]
abbrev d10_6 : List Dl := [
  ⟨⟨(some 26), (.a (.mksl 38 (.c (.int .i64 4)) (.c (.int .i64 4)))), none⟩, 0, 0, 0, false, [], []⟩,
  ⟨⟨(some 27), (.a (.mksl 38 (.c (.int .i64 4)) (.c (.int .i64 4)))), none⟩, 1, 1, 0, false, [], []⟩,
  ⟨⟨(some 13), (.p (.mv (.t 26))), none⟩, 2, 2, 0, false, [], [26]⟩,
  ⟨⟨(some 14), (.p (.mv (.t 27))), none⟩, 3, 2, 0, false, [], [27]⟩]
abbrev r10_7 : List Lo := [
  ⟨(some 15), (.p (.mv (.c (.int .i64 0)))), none⟩]
abbrev r10_8 : List Lo := [
  ⟨(some 28), (.p (.mv (.t 15))), none⟩,
  ⟨(some 29), (.p (.bin .lss 3 (.t 28) (.c (.int .i64 4)))), none⟩]
abbrev r10_9 : List Lo := [
  ⟨(some 32), (.p (.mv (.t 15))), none⟩,
  ⟨(some 33), (.p (.mv (.t 0))), none⟩,
  ⟨(some 34), (.p (.len 38 (.t 33))), none⟩,
  ⟨(some 35), (.p (.bin .lss 3 (.t 32) (.t 34))), none⟩,
  ⟨(some 36), (.p (.mv (.t 35))), none⟩,
  ⟨(some 37), (.p (.mv (.t 15))), (some (36, true))⟩,
  ⟨(some 38), (.p (.mv (.t 1))), (some (36, true))⟩,
  ⟨(some 39), (.p (.len 38 (.t 38))), (some (36, true))⟩,
  ⟨(some 40), (.p (.bin .lss 3 (.t 37) (.t 39))), (some (36, true))⟩,
  ⟨(some 41), (.p (.pick (.t 36) (.t 40) (.c (.bool false)))), none⟩,
  ⟨(some 42), (.p (.mv (.t 41))), none⟩,
  ⟨(some 43), (.p (.mv (.t 15))), (some (42, true))⟩,
  ⟨(some 44), (.p (.mv (.t 2))), (some (42, true))⟩,
  ⟨(some 45), (.p (.len 38 (.t 44))), (some (42, true))⟩,
  ⟨(some 46), (.p (.bin .lss 3 (.t 43) (.t 45))), (some (42, true))⟩,
  ⟨(some 47), (.p (.pick (.t 42) (.t 46) (.c (.bool false)))), none⟩]
abbrev d10_10 : List Dl := [
  ⟨⟨(some 48), (.p (.mv (.t 10))), none⟩, 0, 0, 0, false, [], [10]⟩,
  ⟨⟨(some 49), (.p (.mv (.t 15))), none⟩, 1, 0, 0, false, [], [15]⟩,
  ⟨⟨(some 50), (.p (.mv (.t 11))), none⟩, 2, 0, 0, false, [], [11]⟩,
  ⟨⟨(some 51), (.p (.mv (.t 15))), none⟩, 3, 0, 0, false, [], [15]⟩,
  ⟨⟨(some 52), (.p (.mv (.t 12))), none⟩, 4, 0, 0, false, [], [12]⟩,
  ⟨⟨(some 53), (.p (.mv (.t 15))), none⟩, 5, 0, 0, false, [], [15]⟩,
  ⟨⟨(some 54), (.p (.mv (.t 0))), none⟩, 6, 0, 0, false, [], [0]⟩,
  ⟨⟨(some 55), (.p (.mv (.t 15))), none⟩, 7, 0, 0, false, [], [15]⟩,
  ⟨⟨(some 56), (.p (.iadr 38 (.t 54) (.t 55))), none⟩, 8, 0, 0, false, [], [54, 55]⟩,
  ⟨⟨(some 57), (.r (.load 21 (.t 56))), none⟩, 9, 0, 0, false, [], [56]⟩,
  ⟨⟨(some 58), (.p (.bin .rem 21 (.t 57) (.c (.int .i32 100000)))), none⟩, 10, 0, 0, false, [], [57]⟩,
  ⟨⟨(some 59), (.p (.mv (.t 1))), none⟩, 11, 0, 0, false, [], [1]⟩,
  ⟨⟨(some 60), (.p (.mv (.t 15))), none⟩, 12, 0, 0, false, [], [15]⟩,
  ⟨⟨(some 61), (.p (.iadr 38 (.t 59) (.t 60))), none⟩, 13, 0, 0, false, [], [59, 60]⟩,
  ⟨⟨(some 62), (.r (.load 21 (.t 61))), none⟩, 14, 0, 0, false, [], [61]⟩,
  ⟨⟨(some 63), (.p (.bin .rem 21 (.t 62) (.c (.int .i32 100000)))), none⟩, 15, 0, 0, false, [], [62]⟩,
  ⟨⟨(some 64), (.p (.mv (.t 2))), none⟩, 16, 0, 0, false, [], [2]⟩,
  ⟨⟨(some 65), (.p (.mv (.t 15))), none⟩, 17, 0, 0, false, [], [15]⟩,
  ⟨⟨(some 66), (.p (.iadr 38 (.t 64) (.t 65))), none⟩, 18, 0, 0, false, [], [64, 65]⟩,
  ⟨⟨(some 67), (.r (.load 21 (.t 66))), none⟩, 19, 0, 0, false, [], [66]⟩,
  ⟨⟨(some 68), (.p (.bin .rem 21 (.t 67) (.c (.int .i32 100000)))), none⟩, 20, 0, 0, false, [], [67]⟩,
  ⟨⟨(some 69), (.p (.iadr 38 (.t 48) (.t 49))), none⟩, 21, 0, 0, false, [], [48, 49]⟩,
  ⟨⟨none, (.e (.store 21 (.t 69) (.t 58))), none⟩, 22, 0, 0, false, [], [69, 58]⟩,
  ⟨⟨(some 70), (.p (.iadr 38 (.t 50) (.t 51))), none⟩, 23, 0, 0, false, [], [50, 51]⟩,
  ⟨⟨none, (.e (.store 21 (.t 70) (.t 63))), none⟩, 24, 0, 0, false, [], [70, 63]⟩,
  ⟨⟨(some 71), (.p (.iadr 38 (.t 52) (.t 53))), none⟩, 25, 0, 0, false, [], [52, 53]⟩,
  ⟨⟨none, (.e (.store 21 (.t 71) (.t 68))), none⟩, 26, 0, 0, false, [], [71, 68]⟩]
def d10_11 : List Dl := [
  ⟨⟨(some 72), (.p (.mv (.t 13))), none⟩, 0, 0, 0, false, [], [13]⟩,
  ⟨⟨(some 73), (.p (.mv (.t 15))), none⟩, 1, 0, 0, false, [], [15]⟩,
  ⟨⟨(some 74), (.p (.mv (.t 14))), none⟩, 2, 0, 0, false, [], [14]⟩,
  ⟨⟨(some 75), (.p (.mv (.t 15))), none⟩, 3, 0, 0, false, [], [15]⟩,
  ⟨⟨(some 76), (.p (.mv (.t 10))), none⟩, 4, 0, 0, false, [], [10]⟩,
  ⟨⟨(some 77), (.p (.mv (.t 15))), none⟩, 5, 0, 0, false, [], [15]⟩,
  ⟨⟨(some 78), (.p (.iadr 38 (.t 76) (.t 77))), none⟩, 6, 0, 0, false, [], [76, 77]⟩,
  ⟨⟨(some 79), (.r (.load 21 (.t 78))), none⟩, 7, 0, 0, false, [], [78]⟩,
  ⟨⟨(some 80), (.p (.mv (.t 12))), none⟩, 8, 0, 0, false, [], [12]⟩,
  ⟨⟨(some 81), (.p (.mv (.t 15))), none⟩, 9, 0, 0, false, [], [15]⟩,
  ⟨⟨(some 82), (.p (.iadr 38 (.t 80) (.t 81))), none⟩, 10, 0, 0, false, [], [80, 81]⟩,
  ⟨⟨(some 83), (.r (.load 21 (.t 82))), none⟩, 11, 0, 0, false, [], [82]⟩,
  ⟨⟨(some 84), (.p (.bin .add 21 (.t 79) (.t 83))), none⟩, 12, 0, 0, false, [], [79, 83]⟩,
  ⟨⟨(some 85), (.p (.mv (.t 11))), none⟩, 13, 0, 0, false, [], [11]⟩,
  ⟨⟨(some 86), (.p (.mv (.t 15))), none⟩, 14, 0, 0, false, [], [15]⟩,
  ⟨⟨(some 87), (.p (.iadr 38 (.t 85) (.t 86))), none⟩, 15, 0, 0, false, [], [85, 86]⟩,
  ⟨⟨(some 88), (.r (.load 21 (.t 87))), none⟩, 16, 0, 0, false, [], [87]⟩,
  ⟨⟨(some 89), (.p (.mv (.t 12))), none⟩, 17, 0, 0, false, [], [12]⟩,
  ⟨⟨(some 90), (.p (.mv (.t 15))), none⟩, 18, 0, 0, false, [], [15]⟩,
  ⟨⟨(some 91), (.p (.iadr 38 (.t 89) (.t 90))), none⟩, 19, 0, 0, false, [], [89, 90]⟩,
  ⟨⟨(some 92), (.r (.load 21 (.t 91))), none⟩, 20, 0, 0, false, [], [91]⟩,
  ⟨⟨(some 93), (.p (.bin .add 21 (.t 88) (.t 92))), none⟩, 21, 0, 0, false, [], [88, 92]⟩,
  ⟨⟨(some 94), (.p (.iadr 38 (.t 72) (.t 73))), none⟩, 22, 0, 0, false, [], [72, 73]⟩,
  ⟨⟨none, (.e (.store 21 (.t 94) (.t 84))), none⟩, 23, 0, 0, false, [], [94, 84]⟩,
  ⟨⟨(some 95), (.p (.iadr 38 (.t 74) (.t 75))), none⟩, 24, 0, 0, false, [], [74, 75]⟩,
  ⟨⟨none, (.e (.store 21 (.t 95) (.t 93))), none⟩, 25, 0, 0, false, [], [95, 93]⟩]
abbrev r10_12 : List Lo := [
  ⟨(some 30), (.p (.mv (.t 15))), none⟩,
  ⟨(some 31), (.p (.bin .add 3 (.t 30) (.c (.int .i64 1)))), none⟩,
  ⟨(some 15), (.p (.mv (.t 31))), none⟩]
def l10_13 : Ac := (.seq (.seq (.reg r10_8) (.cond (.t 29) .skip (.exit 0))) (.seq (.blk 1 (.seq (.seq (.reg r10_9) (.cond (.t 47) (.dreg 0 d10_10) .skip)) (.dreg 0 d10_11))) (.reg r10_12)))
abbrev r10_14 : List Lo := [
  ⟨(some 96), (.p (.mv (.t 10))), none⟩,
  ⟨(some 97), (.p (.mv (.t 11))), none⟩,
  ⟨(some 98), (.call (.f 45) [(.c (.int .i64 1)), (.t 96), (.t 97)]), none⟩,
  ⟨(some 16), (.p (.mv (.t 98))), none⟩]
abbrev r10_15 : List Lo := [
  ⟨(some 99), (.p (.mv (.t 16))), none⟩,
  ⟨(some 100), (.p (.mv (.t 11))), none⟩,
  ⟨(some 101), (.p (.mv (.t 10))), none⟩,
  ⟨(some 102), (.call (.f 45) [(.c (.int .i64 1)), (.t 100), (.t 101)]), none⟩,
  ⟨(some 103), (.p (.bin .neq 2 (.t 99) (.t 102))), none⟩,
  ⟨(some 104), (.p (.mv (.t 103))), none⟩,
  ⟨(some 105), (.p (.mv (.t 16))), (some (104, false))⟩,
  ⟨(some 106), (.p (.mv (.t 13))), (some (104, false))⟩,
  ⟨(some 107), (.p (.mv (.t 14))), (some (104, false))⟩,
  ⟨(some 108), (.call (.f 45) [(.c (.int .i64 1)), (.t 106), (.t 107)]), (some (104, false))⟩,
  ⟨(some 109), (.p (.bin .neq 2 (.t 105) (.t 108))), (some (104, false))⟩,
  ⟨(some 110), (.p (.pick (.t 104) (.c (.bool true)) (.t 109))), none⟩,
  ⟨(some 111), (.p (.mv (.t 110))), none⟩,
  ⟨(some 112), (.p (.mv (.t 16))), (some (111, false))⟩,
  ⟨(some 113), (.p (.bin .lss 2 (.t 112) (.c (.int .i64 0)))), (some (111, false))⟩,
  ⟨(some 114), (.p (.pick (.t 111) (.c (.bool true)) (.t 113))), none⟩]
abbrev r10_16 : List Lo := [
  ⟨(some 8), (.p (.mv (.c (.bool false)))), none⟩]
abbrev r10_17 : List Lo := [
  ⟨(some 115), (.p (.mv (.t 10))), none⟩,
  ⟨(some 116), (.p (.len 38 (.t 115))), none⟩,
  ⟨(some 117), (.p (.mv (.c (.int .i64 0)))), none⟩]
abbrev r10_18 : List Lo := [
  ⟨(some 118), (.p (.bin .lss 3 (.t 117) (.t 116))), none⟩]
abbrev r10_19 : List Lo := [
  ⟨(some 119), (.p (.mv (.t 117))), none⟩,
  ⟨(some 17), (.p (.mv (.t 119))), none⟩]
abbrev d10_20 : List Dl := [
  ⟨⟨(some 120), (.p (.mv (.t 13))), none⟩, 0, 0, 0, false, [], [13]⟩,
  ⟨⟨(some 121), (.p (.mv (.t 17))), none⟩, 1, 0, 0, false, [], [17]⟩,
  ⟨⟨(some 122), (.p (.mv (.t 14))), none⟩, 2, 0, 0, false, [], [14]⟩,
  ⟨⟨(some 123), (.p (.mv (.t 17))), none⟩, 3, 0, 0, false, [], [17]⟩,
  ⟨⟨(some 124), (.p (.mv (.t 3))), none⟩, 4, 0, 0, false, [], [3]⟩,
  ⟨⟨(some 125), (.p (.mv (.t 10))), none⟩, 5, 0, 0, false, [], [10]⟩,
  ⟨⟨(some 126), (.p (.mv (.t 17))), none⟩, 6, 0, 0, false, [], [17]⟩,
  ⟨⟨(some 127), (.p (.iadr 38 (.t 125) (.t 126))), none⟩, 7, 0, 0, false, [], [125, 126]⟩,
  ⟨⟨(some 128), (.r (.load 21 (.t 127))), none⟩, 8, 0, 0, false, [], [127]⟩,
  ⟨⟨(some 129), (.p (.bin .mul 21 (.t 124) (.t 128))), none⟩, 9, 0, 0, false, [], [124, 128]⟩,
  ⟨⟨(some 130), (.p (.mv (.t 3))), none⟩, 10, 0, 0, false, [], [3]⟩,
  ⟨⟨(some 131), (.p (.mv (.t 11))), none⟩, 11, 0, 0, false, [], [11]⟩,
  ⟨⟨(some 132), (.p (.mv (.t 17))), none⟩, 12, 0, 0, false, [], [17]⟩,
  ⟨⟨(some 133), (.p (.iadr 38 (.t 131) (.t 132))), none⟩, 13, 0, 0, false, [], [131, 132]⟩,
  ⟨⟨(some 134), (.r (.load 21 (.t 133))), none⟩, 14, 0, 0, false, [], [133]⟩,
  ⟨⟨(some 135), (.p (.bin .mul 21 (.t 130) (.t 134))), none⟩, 15, 0, 0, false, [], [130, 134]⟩,
  ⟨⟨(some 136), (.p (.iadr 38 (.t 120) (.t 121))), none⟩, 16, 0, 0, false, [], [120, 121]⟩,
  ⟨⟨none, (.e (.store 21 (.t 136) (.t 129))), none⟩, 17, 0, 0, false, [], [136, 129]⟩,
  ⟨⟨(some 137), (.p (.iadr 38 (.t 122) (.t 123))), none⟩, 18, 0, 0, false, [], [122, 123]⟩,
  ⟨⟨none, (.e (.store 21 (.t 137) (.t 135))), none⟩, 19, 0, 0, false, [], [137, 135]⟩]
abbrev r10_21 : List Lo := [
  ⟨(some 138), (.p (.bin .add 3 (.t 117) (.c (.int .i64 1)))), none⟩,
  ⟨(some 117), (.p (.mv (.t 138))), none⟩]
def l10_22 : Ac := (.seq (.reg r10_18) (.seq (.cond (.t 118) .skip (.exit 2)) (.seq (.blk 3 (.seq (.reg r10_19) (.dreg 0 d10_20))) (.reg r10_21))))
abbrev d10_23 : List Dl := [
  ⟨⟨(some 139), (.p (.mv (.t 13))), none⟩, 0, 0, 0, false, [], [13]⟩,
  ⟨⟨(some 140), (.p (.mv (.t 14))), none⟩, 1, 0, 0, false, [], [14]⟩,
  ⟨⟨(some 141), (.call (.f 45) [(.c (.int .i64 1)), (.t 139), (.t 140)]), none⟩, 2, 0, 0, false, [], [139, 140]⟩,
  ⟨⟨(some 142), (.p (.mv (.t 16))), none⟩, 3, 0, 1, false, [], [16]⟩,
  ⟨⟨(some 143), (.p (.mv (.t 3))), none⟩, 4, 0, 1, false, [], [3]⟩,
  ⟨⟨(some 144), (.p (.cnv .i64 (.t 143))), none⟩, 5, 0, 1, false, [], [143]⟩,
  ⟨⟨(some 145), (.p (.bin .mul 2 (.t 142) (.t 144))), none⟩, 6, 0, 1, false, [], [142, 144]⟩,
  ⟨⟨(some 146), (.p (.mv (.t 3))), none⟩, 7, 0, 1, false, [], [3]⟩,
  ⟨⟨(some 147), (.p (.cnv .i64 (.t 146))), none⟩, 8, 0, 1, false, [], [146]⟩,
  ⟨⟨(some 148), (.p (.bin .mul 2 (.t 145) (.t 147))), none⟩, 9, 0, 1, false, [], [145, 147]⟩,
  ⟨⟨(some 149), (.p (.bin .eql 2 (.t 141) (.t 148))), none⟩, 10, 0, 0, false, [], [141, 148]⟩,
  ⟨⟨(some 150), (.p (.mv (.t 149))), none⟩, 11, 0, 0, false, [], [149]⟩,
  ⟨⟨(some 151), (.p (.mv (.t 13))), (some (150, true))⟩, 12, 0, 0, false, [], [13, 150]⟩,
  ⟨⟨(some 152), (.p (.mv (.t 11))), (some (150, true))⟩, 13, 0, 0, false, [], [11, 150]⟩,
  ⟨⟨(some 153), (.call (.f 45) [(.c (.int .i64 2)), (.t 151), (.t 152)]), (some (150, true))⟩, 14, 0, 0, false, [], [151, 152, 150]⟩,
  ⟨⟨(some 154), (.p (.mv (.t 3))), (some (150, true))⟩, 15, 0, 1, false, [], [3, 150]⟩,
  ⟨⟨(some 155), (.p (.cnv .i64 (.t 154))), (some (150, true))⟩, 16, 0, 1, false, [], [154, 150]⟩,
  ⟨⟨(some 156), (.p (.mv (.t 10))), (some (150, true))⟩, 17, 0, 1, false, [], [10, 150]⟩,
  ⟨⟨(some 157), (.p (.mv (.t 11))), (some (150, true))⟩, 18, 0, 1, false, [], [11, 150]⟩,
  ⟨⟨(some 158), (.call (.f 45) [(.c (.int .i64 2)), (.t 156), (.t 157)]), (some (150, true))⟩, 19, 0, 0, false, [], [156, 157, 150]⟩,
  ⟨⟨(some 159), (.p (.bin .mul 2 (.t 155) (.t 158))), (some (150, true))⟩, 20, 0, 0, false, [], [155, 158, 150]⟩,
  ⟨⟨(some 160), (.p (.bin .eql 2 (.t 153) (.t 159))), (some (150, true))⟩, 21, 0, 0, false, [], [153, 159, 150]⟩,
  ⟨⟨(some 161), (.p (.pick (.t 150) (.t 160) (.c (.bool false)))), none⟩, 22, 0, 0, false, [], [150, 160]⟩,
  ⟨⟨(some 162), (.p (.mv (.t 161))), none⟩, 23, 0, 0, false, [], [161]⟩,
  ⟨⟨(some 163), (.p (.mv (.t 10))), (some (162, true))⟩, 24, 0, 0, false, [], [10, 162]⟩,
  ⟨⟨(some 164), (.p (.mv (.t 11))), (some (162, true))⟩, 25, 0, 0, false, [], [11, 162]⟩,
  ⟨⟨(some 165), (.call (.f 45) [(.c (.int .i64 1)), (.t 163), (.t 164)]), (some (162, true))⟩, 26, 0, 0, false, [], [163, 164, 162]⟩,
  ⟨⟨(some 166), (.p (.mv (.t 10))), (some (162, true))⟩, 27, 0, 1, false, [], [10, 162]⟩,
  ⟨⟨(some 167), (.a (.mksl 38 (.c (.int .i64 4)) (.c (.int .i64 4)))), (some (162, true))⟩, 28, 0, 1, false, [], [162]⟩,
  ⟨⟨(some 168), (.call (.f 45) [(.c (.int .i64 1)), (.t 166), (.t 167)]), (some (162, true))⟩, 29, 1, 0, false, [], [166, 167, 162]⟩,
  ⟨⟨(some 169), (.p (.mv (.t 11))), (some (162, true))⟩, 30, 1, 2, false, [], [11, 162]⟩,
  ⟨⟨(some 170), (.a (.mksl 38 (.c (.int .i64 4)) (.c (.int .i64 4)))), (some (162, true))⟩, 31, 1, 2, false, [], [162]⟩,
  ⟨⟨(some 171), (.call (.f 45) [(.c (.int .i64 1)), (.t 169), (.t 170)]), (some (162, true))⟩, 32, 2, 0, false, [], [169, 170, 162]⟩,
  ⟨⟨(some 172), (.p (.bin .add 2 (.t 168) (.t 171))), (some (162, true))⟩, 33, 2, 0, false, [], [168, 171, 162]⟩,
  ⟨⟨(some 173), (.p (.mv (.t 10))), (some (162, true))⟩, 34, 2, 3, false, [], [10, 162]⟩,
  ⟨⟨(some 174), (.p (.mv (.t 11))), (some (162, true))⟩, 35, 2, 3, false, [], [11, 162]⟩,
  ⟨⟨(some 175), (.call (.f 45) [(.c (.int .i64 2)), (.t 173), (.t 174)]), (some (162, true))⟩, 36, 2, 0, false, [], [173, 174, 162]⟩,
  ⟨⟨(some 176), (.p (.bin .mul 2 (.c (.int .i64 2)) (.t 175))), (some (162, true))⟩, 37, 2, 0, false, [], [175, 162]⟩,
  ⟨⟨(some 177), (.p (.bin .add 2 (.t 172) (.t 176))), (some (162, true))⟩, 38, 2, 0, false, [], [172, 176, 162]⟩,
  ⟨⟨(some 178), (.p (.bin .eql 2 (.t 165) (.t 177))), (some (162, true))⟩, 39, 2, 0, false, [], [165, 177, 162]⟩,
  ⟨⟨(some 179), (.p (.pick (.t 162) (.t 178) (.c (.bool false)))), none⟩, 40, 2, 0, false, [], [162, 178]⟩,
  ⟨⟨(some 8), (.p (.mv (.t 179))), none⟩, 41, 2, 0, false, [], [179]⟩]
def c10 : AFun := ⟨(.seq (.reg r10_0) (.seq (.reg r10_1) (.seq (.seq (.reg r10_2) (.cond (.t 20) (.seq (.reg r10_3) .ret) .skip)) (.seq (.reg r10_4) (.seq (.dreg 3 d10_5) (.seq (.dreg 2 d10_6) (.seq (.seq (.reg r10_7) (.blk 0 (.loop l10_13))) (.seq (.reg r10_14) (.seq (.seq (.reg r10_15) (.cond (.t 114) (.seq (.reg r10_16) .ret) .skip)) (.seq (.seq (.reg r10_17) (.blk 2 (.loop l10_22))) (.seq (.dreg 2 d10_23) .ret))))))))))), [.t 8], 180⟩
theorem p10 : progOf Tryz.prog 10 = some c10 := by kernel_rfl

set_option maxRecDepth 4000
attribute [local irreducible] gD ndc oAd
def ext10 : FuncId → Option GF := ext1 18 (closedA (.bool true)) (ext1 45 g45 ext0)
theorem ext10_ok : ∀ f g, ext10 f = some g → FnOk Tryz.prog g f := ext1_ok ok18 (ext1_ok ok45 ext0_ok)
/-- A row of one's own that holds these numbers. -/
def OwnR (H : Hp) (b : Nat) (zs : List Int) : Prop := H.get b = some (.row (.lst (zs.map (Value.int .i32))) 0 true)
abbrev sl4 (b : Nat) : Value := .slice (some ⟨b, 0, some 3⟩) 4 4
structure M10 (H : Hp) (n0 : Nat) (us vs ws xs ys : List Int) : Prop where
  u : OwnR H n0 us
  v : OwnR H (n0 + 1) vs
  w : OwnR H (n0 + 2) ws
  x : OwnR H (n0 + 3) xs
  y : OwnR H (n0 + 4) ys
  lu : us.length = 4
  lv : vs.length = 4
  lw : ws.length = 4
  lx : xs.length = 4
  ly : ys.length = 4
  bu : ∀ z ∈ us, -100000 < z ∧ z < 100000
  bv : ∀ z ∈ vs, -100000 < z ∧ z < 100000
  bw : ∀ z ∈ ws, -100000 < z ∧ z < 100000
theorem get_of {l : List Int} {i : Nat} (h : i < l.length) : l[i]? = some (l.getD i 0) := by simp [List.getD, h]
theorem mem_of {l : List Int} {i : Nat} (h : i < l.length) : l.getD i 0 ∈ l := by
  have : l.getD i 0 = l[i] := by simp [List.getD, h]
  rw [this]; exact List.getElem_mem h
theorem getD_set {l : List Int} {i j : Nat} (x : Int) (h : i < l.length) : (l.set i x).getD j 0 = if j = i then x else l.getD j 0 := by
  by_cases e : j = i
  · subst e; simp [List.getD, h]
  · rw [if_neg e]; simp only [List.getD, List.getElem?_set]; rw [if_neg (Ne.symm e)]
/-- Region 12: x[i], y[i] = u[i]+w[i], v[i]+w[i]. -/
theorem tail10 {E : Env} (hE : E.ty = tyOf Tryz.prog) {t : Tr Value} {H : Hp} {n0 i : Nat} {us vs ws xs ys : List Int} (m : M10 H n0 us vs ws xs ys) (hi : i < 4)
    (h10 : Od.ev t (.t 10) = sl4 n0) (h11 : Od.ev t (.t 11) = sl4 (n0 + 1)) (h12 : Od.ev t (.t 12) = sl4 (n0 + 2)) (h13 : Od.ev t (.t 13) = sl4 (n0 + 3)) (h14 : Od.ev t (.t 14) = sl4 (n0 + 4)) (h15 : Od.ev t (.t 15) = .int .i64 i)
    {Q : Ax → Tr Value → Hp → Prop}
    (hq : ∀ t' H', M10 H' n0 us vs ws (xs.set i (us.getD i 0 + ws.getD i 0)) (ys.set i (vs.getD i 0 + ws.getD i 0)) → (∀ b, b ≠ n0 + 3 → b ≠ n0 + 4 → H'.get b = H.get b) → H'.n = H.n → (∀ k, k < 18 → Od.ev t' (.t k) = Od.ev t (.t k)) → Q .nrm t' H') :
    VC E (.dreg 0 d10_11) t H Q := by
  have t38 := (congrFun hE 38).trans ty38
  have t21 := (congrFun hE 21).trans ty21
  have i0 : (0 : Int) ≤ i := Int.natCast_nonneg i
  have i4 : (i : Int) < (4 : Nat) := by omega
  have gu := get_of (l := us) (i := i) (by rw [m.lu]; exact hi)
  have gv := get_of (l := vs) (i := i) (by rw [m.lv]; exact hi)
  have gw := get_of (l := ws) (i := i) (by rw [m.lw]; exact hi)
  have bu := m.bu _ (mem_of (l := us) (i := i) (by rw [m.lu]; exact hi))
  have bv := m.bv _ (mem_of (l := vs) (i := i) (by rw [m.lv]; exact hi))
  have bw := m.bw _ (mem_of (l := ws) (i := i) (by rw [m.lw]; exact hi))
  have e1 : IntKind.i32.wrap (us.getD i 0 + ws.getD i 0) = us.getD i 0 + ws.getD i 0 := wrap32_id (by omega) (by omega)
  have e2 : IntKind.i32.wrap (vs.getD i 0 + ws.getD i 0) = vs.getD i 0 + ws.getD i 0 := wrap32_id (by omega) (by omega)
  have mu := m.u
  have mv := m.v
  have mw := m.w
  have mx := m.x
  have my := m.y
  unfold OwnR at mu mv mw mx my
  unfold d10_11
  simp -implicitDefEqProofs only [↓D_if, gD_true, gD_false, ↓D_a, ↓D_e, ↓D_call, ↓ndc_0, Hp.get_put, Hp.get_alloc, ldR_lst, List.getElem?_map, List.length_map, List.length_set, A_mksl, E_store, omap_some, omap_none, bndV_none, ↓lp_nrm, ↓lp_exit, ↓lp_ret, ↓C_skip, ↓C_reg, ↓C_dreg, ↓C_seq, ↓C_cond, ↓C_blk, ↓C_loop, ↓C_exit, ↓C_ret, ↓sq_nrm, ↓sq_exit, ↓sq_ret, ↓outB_nrm, ↓outB_ret, ↓outB_exit, ↓fin_nrm, ↓fin_ret, ↓fin_ret0, ↓fin_nrm0, ↓fin_ret2, ↓rd_nrm, ↓rd_exit, ↓rd_ret, ↓cIf_true, ↓cIf_false, ↓VO_nil, ↓VO_go, ↓VO_if, ↓nx_some, ↓nx_none, putD_some, putD_none, ↓V_p, ↓V_r, ↓V_a, ↓V_e, ↓V_call, ↓V_inv, ↓oQ_some, ↓oP_some, ↓oA_some, ↓oC_some, gO_true, gO_false, ↓gO_true, ↓gO_false, cIf_true, cIf_false, oQ_some, oP_some, oA_some, oC_some, oV_some,  reserve0, ↓D_nil, ↓D_p, ↓D_r, ↓nd_some, ↓ndr_some, ↓oV_some, ↓ev_rst, has_cons, has_nil, P_mv, P_pick, pickV_true, pickV_false, P_bin, P_un, P_cnv, cnvV_int, P_mkif, P_mkfn, P_fadr, P_fld, P_iadr, P_idx, P_len, P_mn, P_mx, foldV_two, mn2_int, mx2_int, unA_not, unA_neg, B_add, B_sub, B_mul, B_quo, B_rem, B_eql, B_neq, B_lss, B_leq, B_gtr, B_geq, R_load, wants_ev, gV_t, gV_f, ↓evPut, ↓ev_c, ↓ev_f, ↓ev_g, isC_t, isC_c, isC_f, isC_g, ↓reduceIte, Nat.reduceEqDiff, Nat.reduceBEq, Bool.or_self, Bool.or_false, Bool.or_true, Bool.false_or, Bool.true_or, Bool.and_true, Bool.and_false, Bool.true_and, Bool.false_and, Bool.not_true, Bool.not_false, Bool.false_eq_true, ofArgs, List.map_cons, List.map_nil, List.nil_append, List.append_nil, List.cons_append, Nat.reduceAdd, calleeA, beq_self_eq_true, decide_true, decide_false, h10, h11, h12, h13, h14, h15, iadr_own t38 t21 _ _ _ _ _ i0 i4, Int.toNat_natCast, loadV_own rfl t21, mu, mv, mw, gu, gv, gw, Option.map_some, e1, e2]
  rw [storeV_row t21 (n0 + 3) _ _ _ i .i32 _ mx (by simp [m.lx]; exact hi)]
  simp -implicitDefEqProofs only [↓D_if, gD_true, gD_false, ↓D_a, ↓D_e, ↓D_call, ↓ndc_0, Hp.get_put, Hp.get_alloc, ldR_lst, List.getElem?_map, List.length_map, List.length_set, A_mksl, E_store, omap_some, omap_none, bndV_none, ↓lp_nrm, ↓lp_exit, ↓lp_ret, ↓C_skip, ↓C_reg, ↓C_dreg, ↓C_seq, ↓C_cond, ↓C_blk, ↓C_loop, ↓C_exit, ↓C_ret, ↓sq_nrm, ↓sq_exit, ↓sq_ret, ↓outB_nrm, ↓outB_ret, ↓outB_exit, ↓fin_nrm, ↓fin_ret, ↓fin_ret0, ↓fin_nrm0, ↓fin_ret2, ↓rd_nrm, ↓rd_exit, ↓rd_ret, ↓cIf_true, ↓cIf_false, ↓VO_nil, ↓VO_go, ↓VO_if, ↓nx_some, ↓nx_none, putD_some, putD_none, ↓V_p, ↓V_r, ↓V_a, ↓V_e, ↓V_call, ↓V_inv, ↓oQ_some, ↓oP_some, ↓oA_some, ↓oC_some, gO_true, gO_false, ↓gO_true, ↓gO_false, cIf_true, cIf_false, oQ_some, oP_some, oA_some, oC_some, oV_some,  reserve0, ↓D_nil, ↓D_p, ↓D_r, ↓nd_some, ↓ndr_some, ↓oV_some, ↓ev_rst, has_cons, has_nil, P_mv, P_pick, pickV_true, pickV_false, P_bin, P_un, P_cnv, cnvV_int, P_mkif, P_mkfn, P_fadr, P_fld, P_iadr, P_idx, P_len, P_mn, P_mx, foldV_two, mn2_int, mx2_int, unA_not, unA_neg, B_add, B_sub, B_mul, B_quo, B_rem, B_eql, B_neq, B_lss, B_leq, B_gtr, B_geq, R_load, wants_ev, gV_t, gV_f, ↓evPut, ↓ev_c, ↓ev_f, ↓ev_g, isC_t, isC_c, isC_f, isC_g, ↓reduceIte, Nat.reduceEqDiff, Nat.reduceBEq, Bool.or_self, Bool.or_false, Bool.or_true, Bool.false_or, Bool.true_or, Bool.and_true, Bool.and_false, Bool.true_and, Bool.false_and, Bool.not_true, Bool.not_false, Bool.false_eq_true, ofArgs, List.map_cons, List.map_nil, List.nil_append, List.append_nil, List.cons_append, Nat.reduceAdd, calleeA, beq_self_eq_true, decide_true, decide_false, h10, h11, h12, h13, h14, h15, iadr_own t38 t21 _ _ _ _ _ i0 i4, Int.toNat_natCast]
  rw [storeV_row t21 (n0 + 4) _ _ _ i .i32 _ (by rw [Hp.get_put, if_neg (by omega)]; exact my) (by simp [m.ly]; exact hi)]
  simp -implicitDefEqProofs only [↓D_if, gD_true, gD_false, ↓D_a, ↓D_e, ↓D_call, ↓ndc_0, Hp.get_put, Hp.get_alloc, ldR_lst, List.getElem?_map, List.length_map, List.length_set, A_mksl, E_store, omap_some, omap_none, bndV_none, ↓lp_nrm, ↓lp_exit, ↓lp_ret, ↓C_skip, ↓C_reg, ↓C_dreg, ↓C_seq, ↓C_cond, ↓C_blk, ↓C_loop, ↓C_exit, ↓C_ret, ↓sq_nrm, ↓sq_exit, ↓sq_ret, ↓outB_nrm, ↓outB_ret, ↓outB_exit, ↓fin_nrm, ↓fin_ret, ↓fin_ret0, ↓fin_nrm0, ↓fin_ret2, ↓rd_nrm, ↓rd_exit, ↓rd_ret, ↓cIf_true, ↓cIf_false, ↓VO_nil, ↓VO_go, ↓VO_if, ↓nx_some, ↓nx_none, putD_some, putD_none, ↓V_p, ↓V_r, ↓V_a, ↓V_e, ↓V_call, ↓V_inv, ↓oQ_some, ↓oP_some, ↓oA_some, ↓oC_some, gO_true, gO_false, ↓gO_true, ↓gO_false, cIf_true, cIf_false, oQ_some, oP_some, oA_some, oC_some, oV_some,  reserve0, ↓D_nil, ↓D_p, ↓D_r, ↓nd_some, ↓ndr_some, ↓oV_some, ↓ev_rst, has_cons, has_nil, P_mv, P_pick, pickV_true, pickV_false, P_bin, P_un, P_cnv, cnvV_int, P_mkif, P_mkfn, P_fadr, P_fld, P_iadr, P_idx, P_len, P_mn, P_mx, foldV_two, mn2_int, mx2_int, unA_not, unA_neg, B_add, B_sub, B_mul, B_quo, B_rem, B_eql, B_neq, B_lss, B_leq, B_gtr, B_geq, R_load, wants_ev, gV_t, gV_f, ↓evPut, ↓ev_c, ↓ev_f, ↓ev_g, isC_t, isC_c, isC_f, isC_g, ↓reduceIte, Nat.reduceEqDiff, Nat.reduceBEq, Bool.or_self, Bool.or_false, Bool.or_true, Bool.false_or, Bool.true_or, Bool.and_true, Bool.and_false, Bool.true_and, Bool.false_and, Bool.not_true, Bool.not_false, Bool.false_eq_true, ofArgs, List.map_cons, List.map_nil, List.nil_append, List.append_nil, List.cons_append, Nat.reduceAdd, calleeA, beq_self_eq_true, decide_true, decide_false, ← List.map_set]
  refine hq _ _ ⟨?_, ?_, ?_, ?_, ?_, m.lu, m.lv, m.lw, by simp [m.lx], by simp [m.ly], m.bu, m.bv, m.bw⟩ (fun b h1 h2 => ?_) rfl (fun k hk => ?_)
  · unfold OwnR; rw [Hp.get_put, if_neg (by omega), Hp.get_put, if_neg (by omega)]; exact mu
  · unfold OwnR; rw [Hp.get_put, if_neg (by omega), Hp.get_put, if_neg (by omega)]; exact mv
  · unfold OwnR; rw [Hp.get_put, if_neg (by omega), Hp.get_put, if_neg (by omega)]; exact mw
  · unfold OwnR; rw [Hp.get_put, if_neg (by omega), Hp.get_put, if_pos rfl]
  · unfold OwnR; rw [Hp.get_put, if_pos rfl]
  · rw [Hp.get_put, if_neg h2, Hp.get_put, if_neg h1]
  · simp only [evPut]
    repeat rw [if_neg (by omega)]
structure L10 (H : Hp) (va vb vc : Value) (f : Int) (t : Tr Value) (H' : Hp) (i : Nat) (us vs ws xs ys : List Int) : Prop where
  wf : Wf H'
  old : ∀ b, b < H.n → H'.get b = H.get b
  n : H'.n = H.n + 5
  m : M10 H' H.n us vs ws xs ys
  rel : ∀ j, j < i → xs.getD j 0 = us.getD j 0 + ws.getD j 0 ∧ ys.getD j 0 = vs.getD j 0 + ws.getD j 0
  t0 : Od.ev t (.t 0) = va
  t1 : Od.ev t (.t 1) = vb
  t2 : Od.ev t (.t 2) = vc
  t3 : Od.ev t (.t 3) = .int .i32 f
  t10 : Od.ev t (.t 10) = sl4 H.n
  t11 : Od.ev t (.t 11) = sl4 (H.n + 1)
  t12 : Od.ev t (.t 12) = sl4 (H.n + 2)
  t13 : Od.ev t (.t 13) = sl4 (H.n + 3)
  t14 : Od.ev t (.t 14) = sl4 (H.n + 4)
  t15 : Od.ev t (.t 15) = .int .i64 i
def I10 (H : Hp) (va vb vc : Value) (f : Int) (d : Nat) (t : Tr Value) (H' : Hp) : Prop :=
  ∃ (i : Nat) (us vs ws xs ys : List Int), i + d = 4 ∧ L10 H va vb vc f t H' i us vs ws xs ys
theorem Wf.put {H : Hp} (h : Wf H) {b : Nat} (hb : b < H.n) (o : Option AObj) : Wf (H.put b o) := fun id hi => by
  have hi : H.n ≤ id := hi
  rw [Hp.get_put, if_neg (by omega)]; exact h id hi
set_option maxHeartbeats 1000000 in
theorem loop10 {E : Env} (hE : E.ty = tyOf Tryz.prog) {H : Hp} (wf : Wf H) {va vb vc : Value} {a b c : List Int} (ha : IsSl .i32 H va a) (hb : IsSl .i32 H vb b) (hc : IsSl .i32 H vc c) {f : Int} (d : Nat) (t : Tr Value) (H' : Hp) (h : I10 H va vb vc f d t H')
    {Q : Ax → Tr Value → Hp → Prop} (hq : ∀ t' H', I10 H va vb vc f 0 t' H' → Q (.exit 0) t' H') : VC E l10_13 t H' (rd' E (I10 H va vb vc f) d Q) := by
  obtain ⟨i, us, vs, ws, xs, ys, hd, L⟩ := h
  have t38 := (congrFun hE 38).trans ty38
  have t21 := (congrFun hE 21).trans ty21
  have ha' := ha.grow wf L.old
  have hb' := hb.grow wf L.old
  have hc' := hc.grow wf L.old
  have h15 := L.t15
  unfold l10_13
  simp -implicitDefEqProofs only [↓D_if, gD_true, gD_false, ↓D_a, ↓D_e, ↓D_call, ↓ndc_0, Hp.get_put, Hp.get_alloc, ldR_lst, List.getElem?_map, List.length_map, List.length_set, A_mksl, E_store, omap_some, omap_none, bndV_none, ↓lp_nrm, ↓lp_exit, ↓lp_ret, ↓C_skip, ↓C_reg, ↓C_dreg, ↓C_seq, ↓C_cond, ↓C_blk, ↓C_loop, ↓C_exit, ↓C_ret, ↓sq_nrm, ↓sq_exit, ↓sq_ret, ↓outB_nrm, ↓outB_ret, ↓outB_exit, ↓fin_nrm, ↓fin_ret, ↓fin_ret0, ↓fin_nrm0, ↓fin_ret2, ↓rd_nrm, ↓rd_exit, ↓rd_ret, ↓cIf_true, ↓cIf_false, ↓VO_nil, ↓VO_go, ↓VO_if, ↓nx_some, ↓nx_none, putD_some, putD_none, ↓V_p, ↓V_r, ↓V_a, ↓V_e, ↓V_call, ↓V_inv, ↓oQ_some, ↓oP_some, ↓oA_some, ↓oC_some, gO_true, gO_false, ↓gO_true, ↓gO_false, cIf_true, cIf_false, oQ_some, oP_some, oA_some, oC_some, oV_some,  reserve0, ↓D_nil, ↓D_p, ↓D_r, ↓nd_some, ↓ndr_some, ↓oV_some, ↓ev_rst, has_cons, has_nil, P_mv, P_pick, pickV_true, pickV_false, P_bin, P_un, P_cnv, cnvV_int, P_mkif, P_mkfn, P_fadr, P_fld, P_iadr, P_idx, P_len, P_mn, P_mx, foldV_two, mn2_int, mx2_int, unA_not, unA_neg, B_add, B_sub, B_mul, B_quo, B_rem, B_eql, B_neq, B_lss, B_leq, B_gtr, B_geq, R_load, wants_ev, gV_t, gV_f, ↓evPut, ↓ev_c, ↓ev_f, ↓ev_g, isC_t, isC_c, isC_f, isC_g, ↓reduceIte, Nat.reduceEqDiff, Nat.reduceBEq, Bool.or_self, Bool.or_false, Bool.or_true, Bool.false_or, Bool.true_or, Bool.and_true, Bool.and_false, Bool.true_and, Bool.false_and, Bool.not_true, Bool.not_false, Bool.false_eq_true, ofArgs, List.map_cons, List.map_nil, List.nil_append, List.append_nil, List.cons_append, Nat.reduceAdd, calleeA, beq_self_eq_true, decide_true, decide_false, h15]
  by_cases hi : i < 4
  · rw [cIf_yes (by omega)]
    have wi := wrapSucc (i := i) (by omega)
    have tail : ∀ t2 H2 us' vs' ws', M10 H2 H.n us' vs' ws' xs ys → Wf H2 → (∀ b, b < H.n → H2.get b = H.get b) → H2.n = H.n + 5 → (∀ k, k < 18 → Od.ev t2 (.t k) = Od.ev t (.t k)) →
        (∀ j, j < i → us'.getD j 0 = us.getD j 0 ∧ vs'.getD j 0 = vs.getD j 0 ∧ ws'.getD j 0 = ws.getD j 0) →
        VD E H2.n d10_11 ⟨t2, H2, H2, [], []⟩ (outB 1 (sq E (.reg r10_12) (rd' E (I10 H va vb vc f) d Q)) .nrm) := by
      intro t2 H2 us' vs' ws' m w2 old n2 evs rel
      suffices hC : VC E (.dreg 0 d10_11) t2 H2 (outB 1 (sq E (.reg r10_12) (rd' E (I10 H va vb vc f) d Q))) by
        rw [C_dreg, reserve0] at hC; exact hC
      refine tail10 hE m hi (by rw [evs _ (by omega)]; exact L.t10) (by rw [evs _ (by omega)]; exact L.t11) (by rw [evs _ (by omega)]; exact L.t12) (by rw [evs _ (by omega)]; exact L.t13) (by rw [evs _ (by omega)]; exact L.t14) (by rw [evs _ (by omega)]; exact L.t15) (fun t3 H3 m3 old3 n3 evs3 => ?_)
      have e15 : Od.ev t3 (.t 15) = .int .i64 i := by rw [evs3 _ (by omega), evs _ (by omega)]; exact L.t15
      simp -implicitDefEqProofs only [↓D_if, gD_true, gD_false, ↓D_a, ↓D_e, ↓D_call, ↓ndc_0, Hp.get_put, Hp.get_alloc, ldR_lst, List.getElem?_map, List.length_map, List.length_set, A_mksl, E_store, omap_some, omap_none, bndV_none, ↓lp_nrm, ↓lp_exit, ↓lp_ret, ↓C_skip, ↓C_reg, ↓C_dreg, ↓C_seq, ↓C_cond, ↓C_blk, ↓C_loop, ↓C_exit, ↓C_ret, ↓sq_nrm, ↓sq_exit, ↓sq_ret, ↓outB_nrm, ↓outB_ret, ↓outB_exit, ↓fin_nrm, ↓fin_ret, ↓fin_ret0, ↓fin_nrm0, ↓fin_ret2, ↓rd_nrm, ↓rd_exit, ↓rd_ret, ↓cIf_true, ↓cIf_false, ↓VO_nil, ↓VO_go, ↓VO_if, ↓nx_some, ↓nx_none, putD_some, putD_none, ↓V_p, ↓V_r, ↓V_a, ↓V_e, ↓V_call, ↓V_inv, ↓oQ_some, ↓oP_some, ↓oA_some, ↓oC_some, gO_true, gO_false, ↓gO_true, ↓gO_false, cIf_true, cIf_false, oQ_some, oP_some, oA_some, oC_some, oV_some,  reserve0, ↓D_nil, ↓D_p, ↓D_r, ↓nd_some, ↓ndr_some, ↓oV_some, ↓ev_rst, has_cons, has_nil, P_mv, P_pick, pickV_true, pickV_false, P_bin, P_un, P_cnv, cnvV_int, P_mkif, P_mkfn, P_fadr, P_fld, P_iadr, P_idx, P_len, P_mn, P_mx, foldV_two, mn2_int, mx2_int, unA_not, unA_neg, B_add, B_sub, B_mul, B_quo, B_rem, B_eql, B_neq, B_lss, B_leq, B_gtr, B_geq, R_load, wants_ev, gV_t, gV_f, ↓evPut, ↓ev_c, ↓ev_f, ↓ev_g, isC_t, isC_c, isC_f, isC_g, ↓reduceIte, Nat.reduceEqDiff, Nat.reduceBEq, Bool.or_self, Bool.or_false, Bool.or_true, Bool.false_or, Bool.true_or, Bool.and_true, Bool.and_false, Bool.true_and, Bool.false_and, Bool.not_true, Bool.not_false, Bool.false_eq_true, ofArgs, List.map_cons, List.map_nil, List.nil_append, List.append_nil, List.cons_append, Nat.reduceAdd, calleeA, beq_self_eq_true, decide_true, decide_false, e15, wi]
      have ev : ∀ k, k < 15 → Od.ev (((t3.put 30 (some (.int .i64 i))).put 31 (some (.int .i64 ((i + 1 : Nat) : Int)))).put 15 (some (.int .i64 ((i + 1 : Nat) : Int)))) (.t k) = Od.ev t (.t k) := fun k hk => by
        simp only [evPut]
        rw [if_neg (by omega), if_neg (by omega), if_neg (by omega), evs3 _ (by omega), evs _ (by omega)]
      refine ⟨d - 1, by omega, i + 1, us', vs', ws', _, _, by omega, ⟨?_, ?_, ?_, m3, ?_, ?_, ?_, ?_, ?_, ?_, ?_, ?_, ?_, ?_, ?_⟩⟩
      · intro id hid
        rw [n3, n2] at hid
        rw [old3 id (by omega) (by omega)]; exact w2 id (by omega)
      · intro b hb; rw [old3 b (by omega) (by omega)]; exact old b hb
      · rw [n3, n2]
      · intro j hj
        rw [getD_set _ (by rw [m.lx]; exact hi), getD_set _ (by rw [m.ly]; exact hi)]
        by_cases e : j = i
        · subst e; rw [if_pos rfl, if_pos rfl]; exact ⟨rfl, rfl⟩
        · rw [if_neg e, if_neg e]
          obtain ⟨r1, r2, r3⟩ := rel j (by omega)
          rw [r1, r2, r3]
          exact L.rel j (by omega)
      · rw [ev 0 (by omega)]; exact L.t0
      · rw [ev 1 (by omega)]; exact L.t1
      · rw [ev 2 (by omega)]; exact L.t2
      · rw [ev 3 (by omega)]; exact L.t3
      · rw [ev 10 (by omega)]; exact L.t10
      · rw [ev 11 (by omega)]; exact L.t11
      · rw [ev 12 (by omega)]; exact L.t12
      · rw [ev 13 (by omega)]; exact L.t13
      · rw [ev 14 (by omega)]; exact L.t14
      · simp only [↓evPut, ↓ev_c, ↓reduceIte, Nat.reduceEqDiff]
    have skip : ∀ t2, (∀ k, k < 18 → Od.ev t2 (.t k) = Od.ev t (.t k)) → VD E H'.n d10_11 ⟨t2, H', H', [], []⟩ (outB 1 (sq E (.reg r10_12) (rd' E (I10 H va vb vc f) d Q)) .nrm) := fun t2 evs =>
      tail t2 H' us vs ws L.m L.wf L.old L.n evs (fun j _ => ⟨rfl, rfl, rfl⟩)
    have h0 := L.t0
    have h1 := L.t1
    have h2 := L.t2
    have h10 := L.t10
    have h11 := L.t11
    have h12 := L.t12
    have evk : ∀ (k : Nat) (n : Nat) (v : Value) (t' : Tr Value), k < 18 → 18 ≤ n → Od.ev (t'.put n (some v)) (.t k) = Od.ev t' (.t k) := fun k n v t' h1 h2 => by rw [evPut, if_neg (by omega)]
    by_cases la : (i : Int) < a.length
    · by_cases lb : (i : Int) < b.length
      · by_cases lc : (i : Int) < c.length
        · have i0 : (0 : Int) ≤ i := Int.natCast_nonneg i
          have i4 : (i : Int) < (4 : Nat) := by omega
          have mu := L.m.u
          have mv := L.m.v
          have mw := L.m.w
          unfold OwnR at mu mv mw
          simp -implicitDefEqProofs only [↓D_if, gD_true, gD_false, ↓D_a, ↓D_e, ↓D_call, ↓ndc_0, Hp.get_put, Hp.get_alloc, ldR_lst, List.getElem?_map, List.length_map, List.length_set, A_mksl, E_store, omap_some, omap_none, bndV_none, ↓lp_nrm, ↓lp_exit, ↓lp_ret, ↓C_skip, ↓C_reg, ↓C_dreg, ↓C_seq, ↓C_cond, ↓C_blk, ↓C_loop, ↓C_exit, ↓C_ret, ↓sq_nrm, ↓sq_exit, ↓sq_ret, ↓outB_nrm, ↓outB_ret, ↓outB_exit, ↓fin_nrm, ↓fin_ret, ↓fin_ret0, ↓fin_nrm0, ↓fin_ret2, ↓rd_nrm, ↓rd_exit, ↓rd_ret, ↓cIf_true, ↓cIf_false, ↓VO_nil, ↓VO_go, ↓VO_if, ↓nx_some, ↓nx_none, putD_some, putD_none, ↓V_p, ↓V_r, ↓V_a, ↓V_e, ↓V_call, ↓V_inv, ↓oQ_some, ↓oP_some, ↓oA_some, ↓oC_some, gO_true, gO_false, ↓gO_true, ↓gO_false, cIf_true, cIf_false, oQ_some, oP_some, oA_some, oC_some, oV_some,  reserve0, ↓D_nil, ↓D_p, ↓D_r, ↓nd_some, ↓ndr_some, ↓oV_some, ↓ev_rst, has_cons, has_nil, P_mv, P_pick, pickV_true, pickV_false, P_bin, P_un, P_cnv, cnvV_int, P_mkif, P_mkfn, P_fadr, P_fld, P_iadr, P_idx, P_len, P_mn, P_mx, foldV_two, mn2_int, mx2_int, unA_not, unA_neg, B_add, B_sub, B_mul, B_quo, B_rem, B_eql, B_neq, B_lss, B_leq, B_gtr, B_geq, R_load, wants_ev, gV_t, gV_f, ↓evPut, ↓ev_c, ↓ev_f, ↓ev_g, isC_t, isC_c, isC_f, isC_g, ↓reduceIte, Nat.reduceEqDiff, Nat.reduceBEq, Bool.or_self, Bool.or_false, Bool.or_true, Bool.false_or, Bool.true_or, Bool.and_true, Bool.and_false, Bool.true_and, Bool.false_and, Bool.not_true, Bool.not_false, Bool.false_eq_true, ofArgs, List.map_cons, List.map_nil, List.nil_append, List.append_nil, List.cons_append, Nat.reduceAdd, calleeA, beq_self_eq_true, decide_true, decide_false, h0, h1, h2, h15, lenV_sl t38 ha', lenV_sl t38 hb', lenV_sl t38 hc', la, lb, lc, h10, h11, h12, iadr_sl t38 t21 ha' i0 la, iadr_sl t38 t21 hb' i0 lb, iadr_sl t38 t21 hc' i0 lc, iadr_own t38 t21 _ _ _ _ _ i0 i4,
            Int.toNat_natCast, load_sl t21 ha' (show i < a.length by omega), load_sl t21 hb' (show i < b.length by omega), load_sl t21 hc' (show i < c.length by omega), Int.reduceEq]
          rw [storeV_row t21 H.n _ _ _ i .i32 _ mu (by simp [L.m.lu]; exact hi)]
          simp -implicitDefEqProofs only [↓D_if, gD_true, gD_false, ↓D_a, ↓D_e, ↓D_call, ↓ndc_0, Hp.get_put, Hp.get_alloc, ldR_lst, List.getElem?_map, List.length_map, List.length_set, A_mksl, E_store, omap_some, omap_none, bndV_none, ↓lp_nrm, ↓lp_exit, ↓lp_ret, ↓C_skip, ↓C_reg, ↓C_dreg, ↓C_seq, ↓C_cond, ↓C_blk, ↓C_loop, ↓C_exit, ↓C_ret, ↓sq_nrm, ↓sq_exit, ↓sq_ret, ↓outB_nrm, ↓outB_ret, ↓outB_exit, ↓fin_nrm, ↓fin_ret, ↓fin_ret0, ↓fin_nrm0, ↓fin_ret2, ↓rd_nrm, ↓rd_exit, ↓rd_ret, ↓cIf_true, ↓cIf_false, ↓VO_nil, ↓VO_go, ↓VO_if, ↓nx_some, ↓nx_none, putD_some, putD_none, ↓V_p, ↓V_r, ↓V_a, ↓V_e, ↓V_call, ↓V_inv, ↓oQ_some, ↓oP_some, ↓oA_some, ↓oC_some, gO_true, gO_false, ↓gO_true, ↓gO_false, cIf_true, cIf_false, oQ_some, oP_some, oA_some, oC_some, oV_some,  reserve0, ↓D_nil, ↓D_p, ↓D_r, ↓nd_some, ↓ndr_some, ↓oV_some, ↓ev_rst, has_cons, has_nil, P_mv, P_pick, pickV_true, pickV_false, P_bin, P_un, P_cnv, cnvV_int, P_mkif, P_mkfn, P_fadr, P_fld, P_iadr, P_idx, P_len, P_mn, P_mx, foldV_two, mn2_int, mx2_int, unA_not, unA_neg, B_add, B_sub, B_mul, B_quo, B_rem, B_eql, B_neq, B_lss, B_leq, B_gtr, B_geq, R_load, wants_ev, gV_t, gV_f, ↓evPut, ↓ev_c, ↓ev_f, ↓ev_g, isC_t, isC_c, isC_f, isC_g, ↓reduceIte, Nat.reduceEqDiff, Nat.reduceBEq, Bool.or_self, Bool.or_false, Bool.or_true, Bool.false_or, Bool.true_or, Bool.and_true, Bool.and_false, Bool.true_and, Bool.false_and, Bool.not_true, Bool.not_false, Bool.false_eq_true, ofArgs, List.map_cons, List.map_nil, List.nil_append, List.append_nil, List.cons_append, Nat.reduceAdd, calleeA, beq_self_eq_true, decide_true, decide_false, h0, h1, h2, h15, h10, h11, h12, iadr_own t38 t21 _ _ _ _ _ i0 i4, Int.toNat_natCast]
          rw [storeV_row t21 (H.n + 1) _ _ _ i .i32 _ (by rw [Hp.get_put, if_neg (by omega)]; exact mv) (by simp [L.m.lv]; exact hi)]
          simp -implicitDefEqProofs only [↓D_if, gD_true, gD_false, ↓D_a, ↓D_e, ↓D_call, ↓ndc_0, Hp.get_put, Hp.get_alloc, ldR_lst, List.getElem?_map, List.length_map, List.length_set, A_mksl, E_store, omap_some, omap_none, bndV_none, ↓lp_nrm, ↓lp_exit, ↓lp_ret, ↓C_skip, ↓C_reg, ↓C_dreg, ↓C_seq, ↓C_cond, ↓C_blk, ↓C_loop, ↓C_exit, ↓C_ret, ↓sq_nrm, ↓sq_exit, ↓sq_ret, ↓outB_nrm, ↓outB_ret, ↓outB_exit, ↓fin_nrm, ↓fin_ret, ↓fin_ret0, ↓fin_nrm0, ↓fin_ret2, ↓rd_nrm, ↓rd_exit, ↓rd_ret, ↓cIf_true, ↓cIf_false, ↓VO_nil, ↓VO_go, ↓VO_if, ↓nx_some, ↓nx_none, putD_some, putD_none, ↓V_p, ↓V_r, ↓V_a, ↓V_e, ↓V_call, ↓V_inv, ↓oQ_some, ↓oP_some, ↓oA_some, ↓oC_some, gO_true, gO_false, ↓gO_true, ↓gO_false, cIf_true, cIf_false, oQ_some, oP_some, oA_some, oC_some, oV_some,  reserve0, ↓D_nil, ↓D_p, ↓D_r, ↓nd_some, ↓ndr_some, ↓oV_some, ↓ev_rst, has_cons, has_nil, P_mv, P_pick, pickV_true, pickV_false, P_bin, P_un, P_cnv, cnvV_int, P_mkif, P_mkfn, P_fadr, P_fld, P_iadr, P_idx, P_len, P_mn, P_mx, foldV_two, mn2_int, mx2_int, unA_not, unA_neg, B_add, B_sub, B_mul, B_quo, B_rem, B_eql, B_neq, B_lss, B_leq, B_gtr, B_geq, R_load, wants_ev, gV_t, gV_f, ↓evPut, ↓ev_c, ↓ev_f, ↓ev_g, isC_t, isC_c, isC_f, isC_g, ↓reduceIte, Nat.reduceEqDiff, Nat.reduceBEq, Bool.or_self, Bool.or_false, Bool.or_true, Bool.false_or, Bool.true_or, Bool.and_true, Bool.and_false, Bool.true_and, Bool.false_and, Bool.not_true, Bool.not_false, Bool.false_eq_true, ofArgs, List.map_cons, List.map_nil, List.nil_append, List.append_nil, List.cons_append, Nat.reduceAdd, calleeA, beq_self_eq_true, decide_true, decide_false, h0, h1, h2, h15, h10, h11, h12, iadr_own t38 t21 _ _ _ _ _ i0 i4, Int.toNat_natCast]
          rw [storeV_row t21 (H.n + 2) _ _ _ i .i32 _ (by rw [Hp.get_put, if_neg (by omega), Hp.get_put, if_neg (by omega)]; exact mw) (by simp [L.m.lw]; exact hi)]
          simp -implicitDefEqProofs only [↓D_if, gD_true, gD_false, ↓D_a, ↓D_e, ↓D_call, ↓ndc_0, Hp.get_put, Hp.get_alloc, ldR_lst, List.getElem?_map, List.length_map, List.length_set, A_mksl, E_store, omap_some, omap_none, bndV_none, ↓lp_nrm, ↓lp_exit, ↓lp_ret, ↓C_skip, ↓C_reg, ↓C_dreg, ↓C_seq, ↓C_cond, ↓C_blk, ↓C_loop, ↓C_exit, ↓C_ret, ↓sq_nrm, ↓sq_exit, ↓sq_ret, ↓outB_nrm, ↓outB_ret, ↓outB_exit, ↓fin_nrm, ↓fin_ret, ↓fin_ret0, ↓fin_nrm0, ↓fin_ret2, ↓rd_nrm, ↓rd_exit, ↓rd_ret, ↓cIf_true, ↓cIf_false, ↓VO_nil, ↓VO_go, ↓VO_if, ↓nx_some, ↓nx_none, putD_some, putD_none, ↓V_p, ↓V_r, ↓V_a, ↓V_e, ↓V_call, ↓V_inv, ↓oQ_some, ↓oP_some, ↓oA_some, ↓oC_some, gO_true, gO_false, ↓gO_true, ↓gO_false, cIf_true, cIf_false, oQ_some, oP_some, oA_some, oC_some, oV_some,  reserve0, ↓D_nil, ↓D_p, ↓D_r, ↓nd_some, ↓ndr_some, ↓oV_some, ↓ev_rst, has_cons, has_nil, P_mv, P_pick, pickV_true, pickV_false, P_bin, P_un, P_cnv, cnvV_int, P_mkif, P_mkfn, P_fadr, P_fld, P_iadr, P_idx, P_len, P_mn, P_mx, foldV_two, mn2_int, mx2_int, unA_not, unA_neg, B_add, B_sub, B_mul, B_quo, B_rem, B_eql, B_neq, B_lss, B_leq, B_gtr, B_geq, R_load, wants_ev, gV_t, gV_f, ↓evPut, ↓ev_c, ↓ev_f, ↓ev_g, isC_t, isC_c, isC_f, isC_g, ↓reduceIte, Nat.reduceEqDiff, Nat.reduceBEq, Bool.or_self, Bool.or_false, Bool.or_true, Bool.false_or, Bool.true_or, Bool.and_true, Bool.and_false, Bool.true_and, Bool.false_and, Bool.not_true, Bool.not_false, Bool.false_eq_true, ofArgs, List.map_cons, List.map_nil, List.nil_append, List.append_nil, List.cons_append, Nat.reduceAdd, calleeA, beq_self_eq_true, decide_true, decide_false, ← List.map_set]
          have bnd : ∀ z : Int, -100000 < z.tmod 100000 ∧ z.tmod 100000 < 100000 := fun z => tmod_lt z (by decide)
          refine tail _ _ (us.set i ((a.getD i 0).tmod 100000)) (vs.set i ((b.getD i 0).tmod 100000)) (ws.set i ((c.getD i 0).tmod 100000)) ⟨?_, ?_, ?_, ?_, ?_, by simp [L.m.lu], by simp [L.m.lv], by simp [L.m.lw], L.m.lx, L.m.ly, ?_, ?_, ?_⟩ ?_ ?_ ?_ ?_ ?_
          · unfold OwnR; rw [Hp.get_put, if_neg (by omega), Hp.get_put, if_neg (by omega), Hp.get_put, if_pos rfl]
          · unfold OwnR; rw [Hp.get_put, if_neg (by omega), Hp.get_put, if_pos rfl]
          · unfold OwnR; rw [Hp.get_put, if_pos rfl]
          · unfold OwnR; rw [Hp.get_put, if_neg (by omega), Hp.get_put, if_neg (by omega), Hp.get_put, if_neg (by omega)]; exact L.m.x
          · unfold OwnR; rw [Hp.get_put, if_neg (by omega), Hp.get_put, if_neg (by omega), Hp.get_put, if_neg (by omega)]; exact L.m.y
          · intro z hz; rcases List.mem_or_eq_of_mem_set hz with h | h
            · exact L.m.bu z h
            · rw [h]; exact bnd _
          · intro z hz; rcases List.mem_or_eq_of_mem_set hz with h | h
            · exact L.m.bv z h
            · rw [h]; exact bnd _
          · intro z hz; rcases List.mem_or_eq_of_mem_set hz with h | h
            · exact L.m.bw z h
            · rw [h]; exact bnd _
          · have := L.n
            refine Wf.put (Wf.put (Wf.put L.wf (by omega) _) ?_ _) ?_ _
            · rw [Hp.put_n]; omega
            · rw [Hp.put_n, Hp.put_n]; omega
          · intro b' hb'; rw [Hp.get_put, if_neg (by omega), Hp.get_put, if_neg (by omega), Hp.get_put, if_neg (by omega)]; exact L.old b' hb'
          · exact L.n
          · intro k hk; simp only [evPut]; repeat rw [if_neg (by omega)]
          · intro j hj
            rw [getD_set _ (by rw [L.m.lu]; exact hi), getD_set _ (by rw [L.m.lv]; exact hi), getD_set _ (by rw [L.m.lw]; exact hi), if_neg (by omega), if_neg (by omega), if_neg (by omega)]
            exact ⟨rfl, rfl, rfl⟩
        · simp -implicitDefEqProofs only [↓D_if, gD_true, gD_false, ↓D_a, ↓D_e, ↓D_call, ↓ndc_0, Hp.get_put, Hp.get_alloc, ldR_lst, List.getElem?_map, List.length_map, List.length_set, A_mksl, E_store, omap_some, omap_none, bndV_none, ↓lp_nrm, ↓lp_exit, ↓lp_ret, ↓C_skip, ↓C_reg, ↓C_dreg, ↓C_seq, ↓C_cond, ↓C_blk, ↓C_loop, ↓C_exit, ↓C_ret, ↓sq_nrm, ↓sq_exit, ↓sq_ret, ↓outB_nrm, ↓outB_ret, ↓outB_exit, ↓fin_nrm, ↓fin_ret, ↓fin_ret0, ↓fin_nrm0, ↓fin_ret2, ↓rd_nrm, ↓rd_exit, ↓rd_ret, ↓cIf_true, ↓cIf_false, ↓VO_nil, ↓VO_go, ↓VO_if, ↓nx_some, ↓nx_none, putD_some, putD_none, ↓V_p, ↓V_r, ↓V_a, ↓V_e, ↓V_call, ↓V_inv, ↓oQ_some, ↓oP_some, ↓oA_some, ↓oC_some, gO_true, gO_false, ↓gO_true, ↓gO_false, cIf_true, cIf_false, oQ_some, oP_some, oA_some, oC_some, oV_some,  reserve0, ↓D_nil, ↓D_p, ↓D_r, ↓nd_some, ↓ndr_some, ↓oV_some, ↓ev_rst, has_cons, has_nil, P_mv, P_pick, pickV_true, pickV_false, P_bin, P_un, P_cnv, cnvV_int, P_mkif, P_mkfn, P_fadr, P_fld, P_iadr, P_idx, P_len, P_mn, P_mx, foldV_two, mn2_int, mx2_int, unA_not, unA_neg, B_add, B_sub, B_mul, B_quo, B_rem, B_eql, B_neq, B_lss, B_leq, B_gtr, B_geq, R_load, wants_ev, gV_t, gV_f, ↓evPut, ↓ev_c, ↓ev_f, ↓ev_g, isC_t, isC_c, isC_f, isC_g, ↓reduceIte, Nat.reduceEqDiff, Nat.reduceBEq, Bool.or_self, Bool.or_false, Bool.or_true, Bool.false_or, Bool.true_or, Bool.and_true, Bool.and_false, Bool.true_and, Bool.false_and, Bool.not_true, Bool.not_false, Bool.false_eq_true, ofArgs, List.map_cons, List.map_nil, List.nil_append, List.append_nil, List.cons_append, Nat.reduceAdd, calleeA, beq_self_eq_true, decide_true, decide_false, h0, h1, h2, h15, lenV_sl t38 ha', lenV_sl t38 hb', lenV_sl t38 hc', la, lb, lc]
          exact skip _ (fun k hk => by simp only [evPut]; repeat rw [if_neg (by omega)])
      · simp -implicitDefEqProofs only [↓D_if, gD_true, gD_false, ↓D_a, ↓D_e, ↓D_call, ↓ndc_0, Hp.get_put, Hp.get_alloc, ldR_lst, List.getElem?_map, List.length_map, List.length_set, A_mksl, E_store, omap_some, omap_none, bndV_none, ↓lp_nrm, ↓lp_exit, ↓lp_ret, ↓C_skip, ↓C_reg, ↓C_dreg, ↓C_seq, ↓C_cond, ↓C_blk, ↓C_loop, ↓C_exit, ↓C_ret, ↓sq_nrm, ↓sq_exit, ↓sq_ret, ↓outB_nrm, ↓outB_ret, ↓outB_exit, ↓fin_nrm, ↓fin_ret, ↓fin_ret0, ↓fin_nrm0, ↓fin_ret2, ↓rd_nrm, ↓rd_exit, ↓rd_ret, ↓cIf_true, ↓cIf_false, ↓VO_nil, ↓VO_go, ↓VO_if, ↓nx_some, ↓nx_none, putD_some, putD_none, ↓V_p, ↓V_r, ↓V_a, ↓V_e, ↓V_call, ↓V_inv, ↓oQ_some, ↓oP_some, ↓oA_some, ↓oC_some, gO_true, gO_false, ↓gO_true, ↓gO_false, cIf_true, cIf_false, oQ_some, oP_some, oA_some, oC_some, oV_some,  reserve0, ↓D_nil, ↓D_p, ↓D_r, ↓nd_some, ↓ndr_some, ↓oV_some, ↓ev_rst, has_cons, has_nil, P_mv, P_pick, pickV_true, pickV_false, P_bin, P_un, P_cnv, cnvV_int, P_mkif, P_mkfn, P_fadr, P_fld, P_iadr, P_idx, P_len, P_mn, P_mx, foldV_two, mn2_int, mx2_int, unA_not, unA_neg, B_add, B_sub, B_mul, B_quo, B_rem, B_eql, B_neq, B_lss, B_leq, B_gtr, B_geq, R_load, wants_ev, gV_t, gV_f, ↓evPut, ↓ev_c, ↓ev_f, ↓ev_g, isC_t, isC_c, isC_f, isC_g, ↓reduceIte, Nat.reduceEqDiff, Nat.reduceBEq, Bool.or_self, Bool.or_false, Bool.or_true, Bool.false_or, Bool.true_or, Bool.and_true, Bool.and_false, Bool.true_and, Bool.false_and, Bool.not_true, Bool.not_false, Bool.false_eq_true, ofArgs, List.map_cons, List.map_nil, List.nil_append, List.append_nil, List.cons_append, Nat.reduceAdd, calleeA, beq_self_eq_true, decide_true, decide_false, h0, h1, h2, h15, lenV_sl t38 ha', lenV_sl t38 hb', lenV_sl t38 hc', la, lb]
        exact skip _ (fun k hk => by simp only [evPut]; repeat rw [if_neg (by omega)])
    · simp -implicitDefEqProofs only [↓D_if, gD_true, gD_false, ↓D_a, ↓D_e, ↓D_call, ↓ndc_0, Hp.get_put, Hp.get_alloc, ldR_lst, List.getElem?_map, List.length_map, List.length_set, A_mksl, E_store, omap_some, omap_none, bndV_none, ↓lp_nrm, ↓lp_exit, ↓lp_ret, ↓C_skip, ↓C_reg, ↓C_dreg, ↓C_seq, ↓C_cond, ↓C_blk, ↓C_loop, ↓C_exit, ↓C_ret, ↓sq_nrm, ↓sq_exit, ↓sq_ret, ↓outB_nrm, ↓outB_ret, ↓outB_exit, ↓fin_nrm, ↓fin_ret, ↓fin_ret0, ↓fin_nrm0, ↓fin_ret2, ↓rd_nrm, ↓rd_exit, ↓rd_ret, ↓cIf_true, ↓cIf_false, ↓VO_nil, ↓VO_go, ↓VO_if, ↓nx_some, ↓nx_none, putD_some, putD_none, ↓V_p, ↓V_r, ↓V_a, ↓V_e, ↓V_call, ↓V_inv, ↓oQ_some, ↓oP_some, ↓oA_some, ↓oC_some, gO_true, gO_false, ↓gO_true, ↓gO_false, cIf_true, cIf_false, oQ_some, oP_some, oA_some, oC_some, oV_some,  reserve0, ↓D_nil, ↓D_p, ↓D_r, ↓nd_some, ↓ndr_some, ↓oV_some, ↓ev_rst, has_cons, has_nil, P_mv, P_pick, pickV_true, pickV_false, P_bin, P_un, P_cnv, cnvV_int, P_mkif, P_mkfn, P_fadr, P_fld, P_iadr, P_idx, P_len, P_mn, P_mx, foldV_two, mn2_int, mx2_int, unA_not, unA_neg, B_add, B_sub, B_mul, B_quo, B_rem, B_eql, B_neq, B_lss, B_leq, B_gtr, B_geq, R_load, wants_ev, gV_t, gV_f, ↓evPut, ↓ev_c, ↓ev_f, ↓ev_g, isC_t, isC_c, isC_f, isC_g, ↓reduceIte, Nat.reduceEqDiff, Nat.reduceBEq, Bool.or_self, Bool.or_false, Bool.or_true, Bool.false_or, Bool.true_or, Bool.and_true, Bool.and_false, Bool.true_and, Bool.false_and, Bool.not_true, Bool.not_false, Bool.false_eq_true, ofArgs, List.map_cons, List.map_nil, List.nil_append, List.append_nil, List.cons_append, Nat.reduceAdd, calleeA, beq_self_eq_true, decide_true, decide_false, h0, h1, h2, h15, lenV_sl t38 ha', lenV_sl t38 hb', lenV_sl t38 hc', la]
      exact skip _ (fun k hk => by simp only [evPut]; repeat rw [if_neg (by omega)])
  · rw [cIf_no (by omega)]
    simp -implicitDefEqProofs only [↓D_if, gD_true, gD_false, ↓D_a, ↓D_e, ↓D_call, ↓ndc_0, Hp.get_put, Hp.get_alloc, ldR_lst, List.getElem?_map, List.length_map, List.length_set, A_mksl, E_store, omap_some, omap_none, bndV_none, ↓lp_nrm, ↓lp_exit, ↓lp_ret, ↓C_skip, ↓C_reg, ↓C_dreg, ↓C_seq, ↓C_cond, ↓C_blk, ↓C_loop, ↓C_exit, ↓C_ret, ↓sq_nrm, ↓sq_exit, ↓sq_ret, ↓outB_nrm, ↓outB_ret, ↓outB_exit, ↓fin_nrm, ↓fin_ret, ↓fin_ret0, ↓fin_nrm0, ↓fin_ret2, ↓rd_nrm, ↓rd_exit, ↓rd_ret, ↓cIf_true, ↓cIf_false, ↓VO_nil, ↓VO_go, ↓VO_if, ↓nx_some, ↓nx_none, putD_some, putD_none, ↓V_p, ↓V_r, ↓V_a, ↓V_e, ↓V_call, ↓V_inv, ↓oQ_some, ↓oP_some, ↓oA_some, ↓oC_some, gO_true, gO_false, ↓gO_true, ↓gO_false, cIf_true, cIf_false, oQ_some, oP_some, oA_some, oC_some, oV_some,  reserve0, ↓D_nil, ↓D_p, ↓D_r, ↓nd_some, ↓ndr_some, ↓oV_some, ↓ev_rst, has_cons, has_nil, P_mv, P_pick, pickV_true, pickV_false, P_bin, P_un, P_cnv, cnvV_int, P_mkif, P_mkfn, P_fadr, P_fld, P_iadr, P_idx, P_len, P_mn, P_mx, foldV_two, mn2_int, mx2_int, unA_not, unA_neg, B_add, B_sub, B_mul, B_quo, B_rem, B_eql, B_neq, B_lss, B_leq, B_gtr, B_geq, R_load, wants_ev, gV_t, gV_f, ↓evPut, ↓ev_c, ↓ev_f, ↓ev_g, isC_t, isC_c, isC_f, isC_g, ↓reduceIte, Nat.reduceEqDiff, Nat.reduceBEq, Bool.or_self, Bool.or_false, Bool.or_true, Bool.false_or, Bool.true_or, Bool.and_true, Bool.and_false, Bool.true_and, Bool.false_and, Bool.not_true, Bool.not_false, Bool.false_eq_true, ofArgs, List.map_cons, List.map_nil, List.nil_append, List.append_nil, List.cons_append, Nat.reduceAdd, calleeA, beq_self_eq_true, decide_true, decide_false]
    have hi4 : i = 4 := by omega
    refine hq _ _ ⟨i, us, vs, ws, xs, ys, by omega, ⟨L.wf, L.old, L.n, L.m, L.rel, ?_, ?_, ?_, ?_, ?_, ?_, ?_, ?_, ?_, ?_⟩⟩
    · simp only [↓evPut, ↓ev_c, ↓reduceIte, Nat.reduceEqDiff]; exact L.t0
    · simp only [↓evPut, ↓ev_c, ↓reduceIte, Nat.reduceEqDiff]; exact L.t1
    · simp only [↓evPut, ↓ev_c, ↓reduceIte, Nat.reduceEqDiff]; exact L.t2
    · simp only [↓evPut, ↓ev_c, ↓reduceIte, Nat.reduceEqDiff]; exact L.t3
    · simp only [↓evPut, ↓ev_c, ↓reduceIte, Nat.reduceEqDiff]; exact L.t10
    · simp only [↓evPut, ↓ev_c, ↓reduceIte, Nat.reduceEqDiff]; exact L.t11
    · simp only [↓evPut, ↓ev_c, ↓reduceIte, Nat.reduceEqDiff]; exact L.t12
    · simp only [↓evPut, ↓ev_c, ↓reduceIte, Nat.reduceEqDiff]; exact L.t13
    · simp only [↓evPut, ↓ev_c, ↓reduceIte, Nat.reduceEqDiff]; exact L.t14
    · simp only [↓evPut, ↓ev_c, ↓reduceIte, Nat.reduceEqDiff]; exact L.t15
structure L10b (H : Hp) (f D : Int) (t : Tr Value) (H' : Hp) (i : Nat) (us vs ws xs ys : List Int) : Prop where
  wf : Wf H'
  n : H'.n = H.n + 5
  m : M10 H' H.n us vs ws xs ys
  rel : ∀ j, j < i → xs.getD j 0 = f * us.getD j 0 ∧ ys.getD j 0 = f * vs.getD j 0
  t3 : Od.ev t (.t 3) = .int .i32 f
  t10 : Od.ev t (.t 10) = sl4 H.n
  t11 : Od.ev t (.t 11) = sl4 (H.n + 1)
  t13 : Od.ev t (.t 13) = sl4 (H.n + 3)
  t14 : Od.ev t (.t 14) = sl4 (H.n + 4)
  t16 : Od.ev t (.t 16) = .int .i64 D
  t116 : Od.ev t (.t 116) = .int .i64 ((4 : Nat) : Int)
  t117 : Od.ev t (.t 117) = .int .i64 i
def I10b (H : Hp) (f D : Int) (us vs ws : List Int) (d : Nat) (t : Tr Value) (H' : Hp) : Prop :=
  ∃ (i : Nat) (xs ys : List Int), i + d = 4 ∧ L10b H f D t H' i us vs ws xs ys
set_option maxHeartbeats 1000000 in
theorem loop10b {E : Env} (hE : E.ty = tyOf Tryz.prog) {H : Hp} {f D : Int} (hf : -9 < f ∧ f < 9) {us vs ws : List Int} (d : Nat) (t : Tr Value) (H' : Hp) (h : I10b H f D us vs ws d t H')
    {Q : Ax → Tr Value → Hp → Prop} (hq : ∀ t' H', I10b H f D us vs ws 0 t' H' → Q (.exit 2) t' H') : VC E l10_22 t H' (rd' E (I10b H f D us vs ws) d Q) := by
  obtain ⟨i, xs, ys, hd, L⟩ := h
  have t38 := (congrFun hE 38).trans ty38
  have t21 := (congrFun hE 21).trans ty21
  have h116 := L.t116
  have h117 := L.t117
  unfold l10_22
  simp -implicitDefEqProofs only [↓D_if, gD_true, gD_false, ↓D_a, ↓D_e, ↓D_call, ↓ndc_0, Hp.get_put, Hp.get_alloc, ldR_lst, List.getElem?_map, List.length_map, List.length_set, A_mksl, E_store, omap_some, omap_none, bndV_none, ↓lp_nrm, ↓lp_exit, ↓lp_ret, ↓C_skip, ↓C_reg, ↓C_dreg, ↓C_seq, ↓C_cond, ↓C_blk, ↓C_loop, ↓C_exit, ↓C_ret, ↓sq_nrm, ↓sq_exit, ↓sq_ret, ↓outB_nrm, ↓outB_ret, ↓outB_exit, ↓fin_nrm, ↓fin_ret, ↓fin_ret0, ↓fin_nrm0, ↓fin_ret2, ↓rd_nrm, ↓rd_exit, ↓rd_ret, ↓cIf_true, ↓cIf_false, ↓VO_nil, ↓VO_go, ↓VO_if, ↓nx_some, ↓nx_none, putD_some, putD_none, ↓V_p, ↓V_r, ↓V_a, ↓V_e, ↓V_call, ↓V_inv, ↓oQ_some, ↓oP_some, ↓oA_some, ↓oC_some, gO_true, gO_false, ↓gO_true, ↓gO_false, cIf_true, cIf_false, oQ_some, oP_some, oA_some, oC_some, oV_some,  reserve0, ↓D_nil, ↓D_p, ↓D_r, ↓nd_some, ↓ndr_some, ↓oV_some, ↓ev_rst, has_cons, has_nil, P_mv, P_pick, pickV_true, pickV_false, P_bin, P_un, P_cnv, cnvV_int, P_mkif, P_mkfn, P_fadr, P_fld, P_iadr, P_idx, P_len, P_mn, P_mx, foldV_two, mn2_int, mx2_int, unA_not, unA_neg, B_add, B_sub, B_mul, B_quo, B_rem, B_eql, B_neq, B_lss, B_leq, B_gtr, B_geq, R_load, wants_ev, gV_t, gV_f, ↓evPut, ↓ev_c, ↓ev_f, ↓ev_g, isC_t, isC_c, isC_f, isC_g, ↓reduceIte, Nat.reduceEqDiff, Nat.reduceBEq, Bool.or_self, Bool.or_false, Bool.or_true, Bool.false_or, Bool.true_or, Bool.and_true, Bool.and_false, Bool.true_and, Bool.false_and, Bool.not_true, Bool.not_false, Bool.false_eq_true, ofArgs, List.map_cons, List.map_nil, List.nil_append, List.append_nil, List.cons_append, Nat.reduceAdd, calleeA, beq_self_eq_true, decide_true, decide_false, h116, h117]
  by_cases hi : i < 4
  · rw [cIf_yes (by omega)]
    have wi := wrapSucc (i := i) (by omega)
    have m := L.m
    have i0 : (0 : Int) ≤ i := Int.natCast_nonneg i
    have i4 : (i : Int) < (4 : Nat) := by omega
    have gu := get_of (l := us) (i := i) (by rw [m.lu]; exact hi)
    have gv := get_of (l := vs) (i := i) (by rw [m.lv]; exact hi)
    have bu := m.bu _ (mem_of (l := us) (i := i) (by rw [m.lu]; exact hi))
    have bv := m.bv _ (mem_of (l := vs) (i := i) (by rw [m.lv]; exact hi))
    have e1 : IntKind.i32.wrap (f * us.getD i 0) = f * us.getD i 0 := by
      have := mul_f (x := us.getD i 0) (X := 100000) hf (by omega)
      exact wrap32_id (by omega) (by omega)
    have e2 : IntKind.i32.wrap (f * vs.getD i 0) = f * vs.getD i 0 := by
      have := mul_f (x := vs.getD i 0) (X := 100000) hf (by omega)
      exact wrap32_id (by omega) (by omega)
    have mu := m.u
    have mv := m.v
    have mw := m.w
    have mx := m.x
    have my := m.y
    unfold OwnR at mu mv mw mx my
    have h3 := L.t3
    have h10 := L.t10
    have h11 := L.t11
    have h13 := L.t13
    have h14 := L.t14
    simp -implicitDefEqProofs only [↓D_if, gD_true, gD_false, ↓D_a, ↓D_e, ↓D_call, ↓ndc_0, Hp.get_put, Hp.get_alloc, ldR_lst, List.getElem?_map, List.length_map, List.length_set, A_mksl, E_store, omap_some, omap_none, bndV_none, ↓lp_nrm, ↓lp_exit, ↓lp_ret, ↓C_skip, ↓C_reg, ↓C_dreg, ↓C_seq, ↓C_cond, ↓C_blk, ↓C_loop, ↓C_exit, ↓C_ret, ↓sq_nrm, ↓sq_exit, ↓sq_ret, ↓outB_nrm, ↓outB_ret, ↓outB_exit, ↓fin_nrm, ↓fin_ret, ↓fin_ret0, ↓fin_nrm0, ↓fin_ret2, ↓rd_nrm, ↓rd_exit, ↓rd_ret, ↓cIf_true, ↓cIf_false, ↓VO_nil, ↓VO_go, ↓VO_if, ↓nx_some, ↓nx_none, putD_some, putD_none, ↓V_p, ↓V_r, ↓V_a, ↓V_e, ↓V_call, ↓V_inv, ↓oQ_some, ↓oP_some, ↓oA_some, ↓oC_some, gO_true, gO_false, ↓gO_true, ↓gO_false, cIf_true, cIf_false, oQ_some, oP_some, oA_some, oC_some, oV_some,  reserve0, ↓D_nil, ↓D_p, ↓D_r, ↓nd_some, ↓ndr_some, ↓oV_some, ↓ev_rst, has_cons, has_nil, P_mv, P_pick, pickV_true, pickV_false, P_bin, P_un, P_cnv, cnvV_int, P_mkif, P_mkfn, P_fadr, P_fld, P_iadr, P_idx, P_len, P_mn, P_mx, foldV_two, mn2_int, mx2_int, unA_not, unA_neg, B_add, B_sub, B_mul, B_quo, B_rem, B_eql, B_neq, B_lss, B_leq, B_gtr, B_geq, R_load, wants_ev, gV_t, gV_f, ↓evPut, ↓ev_c, ↓ev_f, ↓ev_g, isC_t, isC_c, isC_f, isC_g, ↓reduceIte, Nat.reduceEqDiff, Nat.reduceBEq, Bool.or_self, Bool.or_false, Bool.or_true, Bool.false_or, Bool.true_or, Bool.and_true, Bool.and_false, Bool.true_and, Bool.false_and, Bool.not_true, Bool.not_false, Bool.false_eq_true, ofArgs, List.map_cons, List.map_nil, List.nil_append, List.append_nil, List.cons_append, Nat.reduceAdd, calleeA, beq_self_eq_true, decide_true, decide_false, h3, h10, h11, h13, h14, h116, h117, iadr_own t38 t21 _ _ _ _ _ i0 i4, Int.toNat_natCast, loadV_own rfl t21, mu, mv, gu, gv, Option.map_some, e1, e2]
    rw [storeV_row t21 (H.n + 3) _ _ _ i .i32 _ mx (by simp [m.lx]; exact hi)]
    simp -implicitDefEqProofs only [↓D_if, gD_true, gD_false, ↓D_a, ↓D_e, ↓D_call, ↓ndc_0, Hp.get_put, Hp.get_alloc, ldR_lst, List.getElem?_map, List.length_map, List.length_set, A_mksl, E_store, omap_some, omap_none, bndV_none, ↓lp_nrm, ↓lp_exit, ↓lp_ret, ↓C_skip, ↓C_reg, ↓C_dreg, ↓C_seq, ↓C_cond, ↓C_blk, ↓C_loop, ↓C_exit, ↓C_ret, ↓sq_nrm, ↓sq_exit, ↓sq_ret, ↓outB_nrm, ↓outB_ret, ↓outB_exit, ↓fin_nrm, ↓fin_ret, ↓fin_ret0, ↓fin_nrm0, ↓fin_ret2, ↓rd_nrm, ↓rd_exit, ↓rd_ret, ↓cIf_true, ↓cIf_false, ↓VO_nil, ↓VO_go, ↓VO_if, ↓nx_some, ↓nx_none, putD_some, putD_none, ↓V_p, ↓V_r, ↓V_a, ↓V_e, ↓V_call, ↓V_inv, ↓oQ_some, ↓oP_some, ↓oA_some, ↓oC_some, gO_true, gO_false, ↓gO_true, ↓gO_false, cIf_true, cIf_false, oQ_some, oP_some, oA_some, oC_some, oV_some,  reserve0, ↓D_nil, ↓D_p, ↓D_r, ↓nd_some, ↓ndr_some, ↓oV_some, ↓ev_rst, has_cons, has_nil, P_mv, P_pick, pickV_true, pickV_false, P_bin, P_un, P_cnv, cnvV_int, P_mkif, P_mkfn, P_fadr, P_fld, P_iadr, P_idx, P_len, P_mn, P_mx, foldV_two, mn2_int, mx2_int, unA_not, unA_neg, B_add, B_sub, B_mul, B_quo, B_rem, B_eql, B_neq, B_lss, B_leq, B_gtr, B_geq, R_load, wants_ev, gV_t, gV_f, ↓evPut, ↓ev_c, ↓ev_f, ↓ev_g, isC_t, isC_c, isC_f, isC_g, ↓reduceIte, Nat.reduceEqDiff, Nat.reduceBEq, Bool.or_self, Bool.or_false, Bool.or_true, Bool.false_or, Bool.true_or, Bool.and_true, Bool.and_false, Bool.true_and, Bool.false_and, Bool.not_true, Bool.not_false, Bool.false_eq_true, ofArgs, List.map_cons, List.map_nil, List.nil_append, List.append_nil, List.cons_append, Nat.reduceAdd, calleeA, beq_self_eq_true, decide_true, decide_false, h10, h11, h13, h14, h117, iadr_own t38 t21 _ _ _ _ _ i0 i4, Int.toNat_natCast]
    rw [storeV_row t21 (H.n + 4) _ _ _ i .i32 _ (by rw [Hp.get_put, if_neg (by omega)]; exact my) (by simp [m.ly]; exact hi)]
    simp -implicitDefEqProofs only [↓D_if, gD_true, gD_false, ↓D_a, ↓D_e, ↓D_call, ↓ndc_0, Hp.get_put, Hp.get_alloc, ldR_lst, List.getElem?_map, List.length_map, List.length_set, A_mksl, E_store, omap_some, omap_none, bndV_none, ↓lp_nrm, ↓lp_exit, ↓lp_ret, ↓C_skip, ↓C_reg, ↓C_dreg, ↓C_seq, ↓C_cond, ↓C_blk, ↓C_loop, ↓C_exit, ↓C_ret, ↓sq_nrm, ↓sq_exit, ↓sq_ret, ↓outB_nrm, ↓outB_ret, ↓outB_exit, ↓fin_nrm, ↓fin_ret, ↓fin_ret0, ↓fin_nrm0, ↓fin_ret2, ↓rd_nrm, ↓rd_exit, ↓rd_ret, ↓cIf_true, ↓cIf_false, ↓VO_nil, ↓VO_go, ↓VO_if, ↓nx_some, ↓nx_none, putD_some, putD_none, ↓V_p, ↓V_r, ↓V_a, ↓V_e, ↓V_call, ↓V_inv, ↓oQ_some, ↓oP_some, ↓oA_some, ↓oC_some, gO_true, gO_false, ↓gO_true, ↓gO_false, cIf_true, cIf_false, oQ_some, oP_some, oA_some, oC_some, oV_some,  reserve0, ↓D_nil, ↓D_p, ↓D_r, ↓nd_some, ↓ndr_some, ↓oV_some, ↓ev_rst, has_cons, has_nil, P_mv, P_pick, pickV_true, pickV_false, P_bin, P_un, P_cnv, cnvV_int, P_mkif, P_mkfn, P_fadr, P_fld, P_iadr, P_idx, P_len, P_mn, P_mx, foldV_two, mn2_int, mx2_int, unA_not, unA_neg, B_add, B_sub, B_mul, B_quo, B_rem, B_eql, B_neq, B_lss, B_leq, B_gtr, B_geq, R_load, wants_ev, gV_t, gV_f, ↓evPut, ↓ev_c, ↓ev_f, ↓ev_g, isC_t, isC_c, isC_f, isC_g, ↓reduceIte, Nat.reduceEqDiff, Nat.reduceBEq, Bool.or_self, Bool.or_false, Bool.or_true, Bool.false_or, Bool.true_or, Bool.and_true, Bool.and_false, Bool.true_and, Bool.false_and, Bool.not_true, Bool.not_false, Bool.false_eq_true, ofArgs, List.map_cons, List.map_nil, List.nil_append, List.append_nil, List.cons_append, Nat.reduceAdd, calleeA, beq_self_eq_true, decide_true, decide_false, ← List.map_set, h117, wi]
    have hn := L.n
    refine ⟨d - 1, by omega, i + 1, xs.set i (f * us.getD i 0), ys.set i (f * vs.getD i 0), by omega, ⟨?_, ?_, ⟨?_, ?_, ?_, ?_, ?_, m.lu, m.lv, m.lw, by simp [m.lx], by simp [m.ly], m.bu, m.bv, m.bw⟩, ?_, ?_, ?_, ?_, ?_, ?_, ?_, ?_, ?_⟩⟩
    · refine Wf.put (Wf.put L.wf (by omega) _) ?_ _
      rw [Hp.put_n]; omega
    · rw [Hp.put_n, Hp.put_n]; exact hn
    · unfold OwnR; rw [Hp.get_put, if_neg (by omega), Hp.get_put, if_neg (by omega)]; exact mu
    · unfold OwnR; rw [Hp.get_put, if_neg (by omega), Hp.get_put, if_neg (by omega)]; exact mv
    · unfold OwnR; rw [Hp.get_put, if_neg (by omega), Hp.get_put, if_neg (by omega)]; exact mw
    · unfold OwnR; rw [Hp.get_put, if_neg (by omega), Hp.get_put, if_pos rfl]
    · unfold OwnR; rw [Hp.get_put, if_pos rfl]
    · intro j hj
      rw [getD_set _ (by rw [m.lx]; exact hi), getD_set _ (by rw [m.ly]; exact hi)]
      by_cases e : j = i
      · subst e; rw [if_pos rfl, if_pos rfl]; exact ⟨rfl, rfl⟩
      · rw [if_neg e, if_neg e]; exact L.rel j (by omega)
    · simp only [↓evPut, ↓ev_c, ↓reduceIte, Nat.reduceEqDiff]; exact h3
    · simp only [↓evPut, ↓ev_c, ↓reduceIte, Nat.reduceEqDiff]; exact h10
    · simp only [↓evPut, ↓ev_c, ↓reduceIte, Nat.reduceEqDiff]; exact h11
    · simp only [↓evPut, ↓ev_c, ↓reduceIte, Nat.reduceEqDiff]; exact h13
    · simp only [↓evPut, ↓ev_c, ↓reduceIte, Nat.reduceEqDiff]; exact h14
    · simp only [↓evPut, ↓ev_c, ↓reduceIte, Nat.reduceEqDiff]; exact L.t16
    · simp only [↓evPut, ↓ev_c, ↓reduceIte, Nat.reduceEqDiff]; exact h116
    · simp only [↓evPut, ↓ev_c, ↓reduceIte, Nat.reduceEqDiff]
  · rw [cIf_no (by omega)]
    simp -implicitDefEqProofs only [↓D_if, gD_true, gD_false, ↓D_a, ↓D_e, ↓D_call, ↓ndc_0, Hp.get_put, Hp.get_alloc, ldR_lst, List.getElem?_map, List.length_map, List.length_set, A_mksl, E_store, omap_some, omap_none, bndV_none, ↓lp_nrm, ↓lp_exit, ↓lp_ret, ↓C_skip, ↓C_reg, ↓C_dreg, ↓C_seq, ↓C_cond, ↓C_blk, ↓C_loop, ↓C_exit, ↓C_ret, ↓sq_nrm, ↓sq_exit, ↓sq_ret, ↓outB_nrm, ↓outB_ret, ↓outB_exit, ↓fin_nrm, ↓fin_ret, ↓fin_ret0, ↓fin_nrm0, ↓fin_ret2, ↓rd_nrm, ↓rd_exit, ↓rd_ret, ↓cIf_true, ↓cIf_false, ↓VO_nil, ↓VO_go, ↓VO_if, ↓nx_some, ↓nx_none, putD_some, putD_none, ↓V_p, ↓V_r, ↓V_a, ↓V_e, ↓V_call, ↓V_inv, ↓oQ_some, ↓oP_some, ↓oA_some, ↓oC_some, gO_true, gO_false, ↓gO_true, ↓gO_false, cIf_true, cIf_false, oQ_some, oP_some, oA_some, oC_some, oV_some,  reserve0, ↓D_nil, ↓D_p, ↓D_r, ↓nd_some, ↓ndr_some, ↓oV_some, ↓ev_rst, has_cons, has_nil, P_mv, P_pick, pickV_true, pickV_false, P_bin, P_un, P_cnv, cnvV_int, P_mkif, P_mkfn, P_fadr, P_fld, P_iadr, P_idx, P_len, P_mn, P_mx, foldV_two, mn2_int, mx2_int, unA_not, unA_neg, B_add, B_sub, B_mul, B_quo, B_rem, B_eql, B_neq, B_lss, B_leq, B_gtr, B_geq, R_load, wants_ev, gV_t, gV_f, ↓evPut, ↓ev_c, ↓ev_f, ↓ev_g, isC_t, isC_c, isC_f, isC_g, ↓reduceIte, Nat.reduceEqDiff, Nat.reduceBEq, Bool.or_self, Bool.or_false, Bool.or_true, Bool.false_or, Bool.true_or, Bool.and_true, Bool.and_false, Bool.true_and, Bool.false_and, Bool.not_true, Bool.not_false, Bool.false_eq_true, ofArgs, List.map_cons, List.map_nil, List.nil_append, List.append_nil, List.cons_append, Nat.reduceAdd, calleeA, beq_self_eq_true, decide_true, decide_false]
    refine hq _ _ ⟨i, xs, ys, by omega, ⟨L.wf, L.n, L.m, L.rel, ?_, ?_, ?_, ?_, ?_, ?_, ?_, ?_⟩⟩
    · simp only [↓evPut, ↓ev_c, ↓reduceIte, Nat.reduceEqDiff]; exact L.t3
    · simp only [↓evPut, ↓ev_c, ↓reduceIte, Nat.reduceEqDiff]; exact L.t10
    · simp only [↓evPut, ↓ev_c, ↓reduceIte, Nat.reduceEqDiff]; exact L.t11
    · simp only [↓evPut, ↓ev_c, ↓reduceIte, Nat.reduceEqDiff]; exact L.t13
    · simp only [↓evPut, ↓ev_c, ↓reduceIte, Nat.reduceEqDiff]; exact L.t14
    · simp only [↓evPut, ↓ev_c, ↓reduceIte, Nat.reduceEqDiff]; exact L.t16
    · simp only [↓evPut, ↓ev_c, ↓reduceIte, Nat.reduceEqDiff]; exact h116
    · simp only [↓evPut, ↓ev_c, ↓reduceIte, Nat.reduceEqDiff]; exact h117
theorem g45_run {H : Hp} {va vb : Value} {a b : List Int} (ha : IsSl .i32 H va a) (hb : IsSl .i32 H vb b) (la : a.length < 9223372036854775807) (lb : b.length < 9223372036854775807) (m : Int) : g45 [.int .i64 m, va, vb] H = some (.int .i64 (scoreF m a b 0), H) := by
  unfold g45
  simp only [ha.rd, hb.rd]
  rw [if_pos ⟨la, lb⟩]
theorem isl_own {H : Hp} {b : Nat} {zs : List Int} (h : OwnR H b zs) (hl : zs.length = 4) (hs : small zs) : IsSl .i32 H (sl4 b) zs := by
  have := IsSl.own (k := .i32) (cap := 4) h (.inr rfl) (by omega) (fun z hz => by have := hs z hz; exact wrap32_id (by omega) (by omega))
  rw [hl] at this; exact this
theorem Hp.reserve_n (H : Hp) (k : Nat) : (H.reserve k).n = H.n + k := rfl
theorem Hp.reserve_get (H : Hp) (k i : Nat) : (H.reserve k).get i = H.get i := rfl
theorem mk4 {E : Env} (hE : E.ty = tyOf Tryz.prog) : mkV E 38 (.int .i64 4) (.int .i64 4) = some (.row (.lst ((List.replicate 4 0).map (Value.int .i32))) 0 true, fun i => .slice (some ⟨i, 0, some 3⟩) 4 4) :=
  mkV_int ((congrFun hE 38).trans ty38) ((congrFun hE 21).trans ty21) (by decide) (by decide) (by decide)
set_option maxHeartbeats 2000000 in
theorem wf10 {H : Hp} (wf : Wf H) (hd : hasDoor H = true) (hn : 2 ≤ H.n) {va vb vc : Value} {a b c : List Int} (ha : IsSl .i32 H va a) (hb : IsSl .i32 H vb b) (hc : IsSl .i32 H vc c) (k : Int) :
    WF (envT ext10) 10 [va, vb, vc, .int .i32 k] H fun v _ => v = .bool true := by
  refine WF.go rfl p10 rfl ?_
  have t38 : (envT ext10).ty 38 = _ := ty38
  have t21 : (envT ext10).ty 21 = _ := ty21
  have hw : ∀ s, H.get (H.n + s) = none := fun s => wf _ (by omega)
  have hw0 : H.get H.n = none := wf _ (by omega)
  obtain ⟨f, hf⟩ : ∃ f, k.tmod 9 = f := ⟨_, rfl⟩
  have hf9 : -9 < f ∧ f < 9 := by rw [← hf]; exact tmod_lt k (by decide)
  unfold c10
  simp -implicitDefEqProofs only [↓D_if, gD_true, gD_false, ↓D_a, ↓D_e, ↓D_call, ↓ndc_0, Hp.get_put, Hp.get_alloc, ldR_lst, List.getElem?_map, List.length_map, List.length_set, A_mksl, E_store, omap_some, omap_none, bndV_none, ↓lp_nrm, ↓lp_exit, ↓lp_ret, ↓C_skip, ↓C_reg, ↓C_dreg, ↓C_seq, ↓C_cond, ↓C_blk, ↓C_loop, ↓C_exit, ↓C_ret, ↓sq_nrm, ↓sq_exit, ↓sq_ret, ↓outB_nrm, ↓outB_ret, ↓outB_exit, ↓fin_nrm, ↓fin_ret, ↓fin_ret0, ↓fin_nrm0, ↓fin_ret2, ↓rd_nrm, ↓rd_exit, ↓rd_ret, ↓cIf_true, ↓cIf_false, ↓VO_nil, ↓VO_go, ↓VO_if, ↓nx_some, ↓nx_none, putD_some, putD_none, ↓V_p, ↓V_r, ↓V_a, ↓V_e, ↓V_call, ↓V_inv, ↓oQ_some, ↓oP_some, ↓oA_some, ↓oC_some, gO_true, gO_false, ↓gO_true, ↓gO_false, cIf_true, cIf_false, oQ_some, oP_some, oA_some, oC_some, oV_some,  reserve0, ↓D_nil, ↓D_p, ↓D_r, ↓nd_some, ↓ndr_some, ↓oV_some, ↓ev_rst, has_cons, has_nil, P_mv, P_pick, pickV_true, pickV_false, P_bin, P_un, P_cnv, cnvV_int, P_mkif, P_mkfn, P_fadr, P_fld, P_iadr, P_idx, P_len, P_mn, P_mx, foldV_two, mn2_int, mx2_int, unA_not, unA_neg, B_add, B_sub, B_mul, B_quo, B_rem, B_eql, B_neq, B_lss, B_leq, B_gtr, B_geq, R_load, wants_ev, gV_t, gV_f, ↓evPut, ↓ev_c, ↓ev_f, ↓ev_g, isC_t, isC_c, isC_f, isC_g, ↓reduceIte, Nat.reduceEqDiff, Nat.reduceBEq, Bool.or_self, Bool.or_false, Bool.or_true, Bool.false_or, Bool.true_or, Bool.and_true, Bool.and_false, Bool.true_and, Bool.false_and, Bool.not_true, Bool.not_false, Bool.false_eq_true, ofArgs, List.map_cons, List.map_nil, List.nil_append, List.append_nil, List.cons_append, Nat.reduceAdd, calleeA, beq_self_eq_true, decide_true, decide_false]
  refine WF.ext rfl (closed_run hd hn) ?_
  simp -implicitDefEqProofs only [↓D_if, gD_true, gD_false, ↓D_a, ↓D_e, ↓D_call, ↓ndc_0, Hp.get_put, Hp.get_alloc, ldR_lst, List.getElem?_map, List.length_map, List.length_set, A_mksl, E_store, omap_some, omap_none, bndV_none, ↓lp_nrm, ↓lp_exit, ↓lp_ret, ↓C_skip, ↓C_reg, ↓C_dreg, ↓C_seq, ↓C_cond, ↓C_blk, ↓C_loop, ↓C_exit, ↓C_ret, ↓sq_nrm, ↓sq_exit, ↓sq_ret, ↓outB_nrm, ↓outB_ret, ↓outB_exit, ↓fin_nrm, ↓fin_ret, ↓fin_ret0, ↓fin_nrm0, ↓fin_ret2, ↓rd_nrm, ↓rd_exit, ↓rd_ret, ↓cIf_true, ↓cIf_false, ↓VO_nil, ↓VO_go, ↓VO_if, ↓nx_some, ↓nx_none, putD_some, putD_none, ↓V_p, ↓V_r, ↓V_a, ↓V_e, ↓V_call, ↓V_inv, ↓oQ_some, ↓oP_some, ↓oA_some, ↓oC_some, gO_true, gO_false, ↓gO_true, ↓gO_false, cIf_true, cIf_false, oQ_some, oP_some, oA_some, oC_some, oV_some,  reserve0, ↓D_nil, ↓D_p, ↓D_r, ↓nd_some, ↓ndr_some, ↓oV_some, ↓ev_rst, has_cons, has_nil, P_mv, P_pick, pickV_true, pickV_false, P_bin, P_un, P_cnv, cnvV_int, P_mkif, P_mkfn, P_fadr, P_fld, P_iadr, P_idx, P_len, P_mn, P_mx, foldV_two, mn2_int, mx2_int, unA_not, unA_neg, B_add, B_sub, B_mul, B_quo, B_rem, B_eql, B_neq, B_lss, B_leq, B_gtr, B_geq, R_load, wants_ev, gV_t, gV_f, ↓evPut, ↓ev_c, ↓ev_f, ↓ev_g, isC_t, isC_c, isC_f, isC_g, ↓reduceIte, Nat.reduceEqDiff, Nat.reduceBEq, Bool.or_self, Bool.or_false, Bool.or_true, Bool.false_or, Bool.true_or, Bool.and_true, Bool.and_false, Bool.true_and, Bool.false_and, Bool.not_true, Bool.not_false, Bool.false_eq_true, ofArgs, List.map_cons, List.map_nil, List.nil_append, List.append_nil, List.cons_append, Nat.reduceAdd, calleeA, beq_self_eq_true, decide_true, decide_false, Int.reduceEq, hf, mk4 (E := envT ext10) rfl, oAd_row, List.all_cons, List.all_nil, Hp.reserve_get, Hp.reserve_n, Hp.put_n, hw, hw0, Option.isNone_none, Nat.add_zero, Nat.add_assoc, Nat.add_eq_left, Nat.reduceEqDiff]
  refine VC.loop (I10 H va vb vc f) (fun d t H' h => loop10 (E := envT ext10) rfl wf ha hb hc d t H' h ?_) (d := 4) ⟨0, List.replicate 4 0, List.replicate 4 0, List.replicate 4 0, List.replicate 4 0, List.replicate 4 0, rfl, ?_⟩
  · intro t1 H1 ⟨i, us, vs, ws, xs, ys, hi, L⟩
    have hi4 : i = 4 := by omega
    subst hi4
    clear h
    have m := L.m
    have su := in5_small m.bu
    have sv := in5_small m.bv
    have sx : small xs := fun z hz => by
      obtain ⟨j, hj, rfl⟩ := List.getElem_of_mem hz
      have h1 := L.rel j (by have := m.lx; omega)
      have h2 := in5_get m.bu m.lu j (by have := m.lx; omega)
      have h3 := in5_get m.bw m.lw j (by have := m.lx; omega)
      have : xs.getD j 0 = xs[j] := by simp [List.getD, hj]
      omega
    have sy : small ys := fun z hz => by
      obtain ⟨j, hj, rfl⟩ := List.getElem_of_mem hz
      have h1 := L.rel j (by have := m.ly; omega)
      have h2 := in5_get m.bv m.lv j (by have := m.ly; omega)
      have h3 := in5_get m.bw m.lw j (by have := m.ly; omega)
      have : ys.getD j 0 = ys[j] := by simp [List.getD, hj]
      omega
    have iu := isl_own m.u m.lu su
    have iv := isl_own m.v m.lv sv
    have ix := isl_own m.x m.lx sx
    have iy := isl_own m.y m.ly sy
    have b1 := m.lu
    have b2 := m.lv
    have b3 := m.lx
    have b4 := m.ly
    have hD := d2_bound m.bu m.bv m.lu m.lv
    have e1 : scoreF 1 us vs 0 = d2 us vs := score1 su sv m.lu
    have e2 : scoreF 1 vs us 0 = d2 us vs := by rw [score1 sv su m.lv, d2_comm]
    have e3 : scoreF 1 xs ys 0 = d2 us vs := by rw [score1 sx sy m.lx, d2_shift m.lu m.lv m.lx m.ly L.rel]
    have nD : ¬ (d2 us vs < 0) := by omega
    simp -implicitDefEqProofs only [↓D_if, gD_true, gD_false, ↓D_a, ↓D_e, ↓D_call, ↓ndc_0, Hp.get_put, Hp.get_alloc, ldR_lst, List.getElem?_map, List.length_map, List.length_set, A_mksl, E_store, omap_some, omap_none, bndV_none, ↓lp_nrm, ↓lp_exit, ↓lp_ret, ↓C_skip, ↓C_reg, ↓C_dreg, ↓C_seq, ↓C_cond, ↓C_blk, ↓C_loop, ↓C_exit, ↓C_ret, ↓sq_nrm, ↓sq_exit, ↓sq_ret, ↓outB_nrm, ↓outB_ret, ↓outB_exit, ↓fin_nrm, ↓fin_ret, ↓fin_ret0, ↓fin_nrm0, ↓fin_ret2, ↓rd_nrm, ↓rd_exit, ↓rd_ret, ↓cIf_true, ↓cIf_false, ↓VO_nil, ↓VO_go, ↓VO_if, ↓nx_some, ↓nx_none, putD_some, putD_none, ↓V_p, ↓V_r, ↓V_a, ↓V_e, ↓V_call, ↓V_inv, ↓oQ_some, ↓oP_some, ↓oA_some, ↓oC_some, gO_true, gO_false, ↓gO_true, ↓gO_false, cIf_true, cIf_false, oQ_some, oP_some, oA_some, oC_some, oV_some,  reserve0, ↓D_nil, ↓D_p, ↓D_r, ↓nd_some, ↓ndr_some, ↓oV_some, ↓ev_rst, has_cons, has_nil, P_mv, P_pick, pickV_true, pickV_false, P_bin, P_un, P_cnv, cnvV_int, P_mkif, P_mkfn, P_fadr, P_fld, P_iadr, P_idx, P_len, P_mn, P_mx, foldV_two, mn2_int, mx2_int, unA_not, unA_neg, B_add, B_sub, B_mul, B_quo, B_rem, B_eql, B_neq, B_lss, B_leq, B_gtr, B_geq, R_load, wants_ev, gV_t, gV_f, ↓evPut, ↓ev_c, ↓ev_f, ↓ev_g, isC_t, isC_c, isC_f, isC_g, ↓reduceIte, Nat.reduceEqDiff, Nat.reduceBEq, Bool.or_self, Bool.or_false, Bool.or_true, Bool.false_or, Bool.true_or, Bool.and_true, Bool.and_false, Bool.true_and, Bool.false_and, Bool.not_true, Bool.not_false, Bool.false_eq_true, ofArgs, List.map_cons, List.map_nil, List.nil_append, List.append_nil, List.cons_append, Nat.reduceAdd, calleeA, beq_self_eq_true, decide_true, decide_false, L.t10, L.t11]
    refine WF.ext (g := g45) rfl (g45_run iu iv (by omega) (by omega) 1) ?_
    rw [e1]
    simp -implicitDefEqProofs only [↓D_if, gD_true, gD_false, ↓D_a, ↓D_e, ↓D_call, ↓ndc_0, Hp.get_put, Hp.get_alloc, ldR_lst, List.getElem?_map, List.length_map, List.length_set, A_mksl, E_store, omap_some, omap_none, bndV_none, ↓lp_nrm, ↓lp_exit, ↓lp_ret, ↓C_skip, ↓C_reg, ↓C_dreg, ↓C_seq, ↓C_cond, ↓C_blk, ↓C_loop, ↓C_exit, ↓C_ret, ↓sq_nrm, ↓sq_exit, ↓sq_ret, ↓outB_nrm, ↓outB_ret, ↓outB_exit, ↓fin_nrm, ↓fin_ret, ↓fin_ret0, ↓fin_nrm0, ↓fin_ret2, ↓rd_nrm, ↓rd_exit, ↓rd_ret, ↓cIf_true, ↓cIf_false, ↓VO_nil, ↓VO_go, ↓VO_if, ↓nx_some, ↓nx_none, putD_some, putD_none, ↓V_p, ↓V_r, ↓V_a, ↓V_e, ↓V_call, ↓V_inv, ↓oQ_some, ↓oP_some, ↓oA_some, ↓oC_some, gO_true, gO_false, ↓gO_true, ↓gO_false, cIf_true, cIf_false, oQ_some, oP_some, oA_some, oC_some, oV_some,  reserve0, ↓D_nil, ↓D_p, ↓D_r, ↓nd_some, ↓ndr_some, ↓oV_some, ↓ev_rst, has_cons, has_nil, P_mv, P_pick, pickV_true, pickV_false, P_bin, P_un, P_cnv, cnvV_int, P_mkif, P_mkfn, P_fadr, P_fld, P_iadr, P_idx, P_len, P_mn, P_mx, foldV_two, mn2_int, mx2_int, unA_not, unA_neg, B_add, B_sub, B_mul, B_quo, B_rem, B_eql, B_neq, B_lss, B_leq, B_gtr, B_geq, R_load, wants_ev, gV_t, gV_f, ↓evPut, ↓ev_c, ↓ev_f, ↓ev_g, isC_t, isC_c, isC_f, isC_g, ↓reduceIte, Nat.reduceEqDiff, Nat.reduceBEq, Bool.or_self, Bool.or_false, Bool.or_true, Bool.false_or, Bool.true_or, Bool.and_true, Bool.and_false, Bool.true_and, Bool.false_and, Bool.not_true, Bool.not_false, Bool.false_eq_true, ofArgs, List.map_cons, List.map_nil, List.nil_append, List.append_nil, List.cons_append, Nat.reduceAdd, calleeA, beq_self_eq_true, decide_true, decide_false, L.t10, L.t11, L.t13, L.t14]
    refine WF.ext (g := g45) rfl (g45_run iv iu (by omega) (by omega) 1) ?_
    rw [e2]
    simp -implicitDefEqProofs only [↓D_if, gD_true, gD_false, ↓D_a, ↓D_e, ↓D_call, ↓ndc_0, Hp.get_put, Hp.get_alloc, ldR_lst, List.getElem?_map, List.length_map, List.length_set, A_mksl, E_store, omap_some, omap_none, bndV_none, ↓lp_nrm, ↓lp_exit, ↓lp_ret, ↓C_skip, ↓C_reg, ↓C_dreg, ↓C_seq, ↓C_cond, ↓C_blk, ↓C_loop, ↓C_exit, ↓C_ret, ↓sq_nrm, ↓sq_exit, ↓sq_ret, ↓outB_nrm, ↓outB_ret, ↓outB_exit, ↓fin_nrm, ↓fin_ret, ↓fin_ret0, ↓fin_nrm0, ↓fin_ret2, ↓rd_nrm, ↓rd_exit, ↓rd_ret, ↓cIf_true, ↓cIf_false, ↓VO_nil, ↓VO_go, ↓VO_if, ↓nx_some, ↓nx_none, putD_some, putD_none, ↓V_p, ↓V_r, ↓V_a, ↓V_e, ↓V_call, ↓V_inv, ↓oQ_some, ↓oP_some, ↓oA_some, ↓oC_some, gO_true, gO_false, ↓gO_true, ↓gO_false, cIf_true, cIf_false, oQ_some, oP_some, oA_some, oC_some, oV_some,  reserve0, ↓D_nil, ↓D_p, ↓D_r, ↓nd_some, ↓ndr_some, ↓oV_some, ↓ev_rst, has_cons, has_nil, P_mv, P_pick, pickV_true, pickV_false, P_bin, P_un, P_cnv, cnvV_int, P_mkif, P_mkfn, P_fadr, P_fld, P_iadr, P_idx, P_len, P_mn, P_mx, foldV_two, mn2_int, mx2_int, unA_not, unA_neg, B_add, B_sub, B_mul, B_quo, B_rem, B_eql, B_neq, B_lss, B_leq, B_gtr, B_geq, R_load, wants_ev, gV_t, gV_f, ↓evPut, ↓ev_c, ↓ev_f, ↓ev_g, isC_t, isC_c, isC_f, isC_g, ↓reduceIte, Nat.reduceEqDiff, Nat.reduceBEq, Bool.or_self, Bool.or_false, Bool.or_true, Bool.false_or, Bool.true_or, Bool.and_true, Bool.and_false, Bool.true_and, Bool.false_and, Bool.not_true, Bool.not_false, Bool.false_eq_true, ofArgs, List.map_cons, List.map_nil, List.nil_append, List.append_nil, List.cons_append, Nat.reduceAdd, calleeA, beq_self_eq_true, decide_true, decide_false, L.t10, L.t11, L.t13, L.t14]
    refine WF.ext (g := g45) rfl (g45_run ix iy (by omega) (by omega) 1) ?_
    rw [e3]
    simp -implicitDefEqProofs only [↓D_if, gD_true, gD_false, ↓D_a, ↓D_e, ↓D_call, ↓ndc_0, Hp.get_put, Hp.get_alloc, ldR_lst, List.getElem?_map, List.length_map, List.length_set, A_mksl, E_store, omap_some, omap_none, bndV_none, ↓lp_nrm, ↓lp_exit, ↓lp_ret, ↓C_skip, ↓C_reg, ↓C_dreg, ↓C_seq, ↓C_cond, ↓C_blk, ↓C_loop, ↓C_exit, ↓C_ret, ↓sq_nrm, ↓sq_exit, ↓sq_ret, ↓outB_nrm, ↓outB_ret, ↓outB_exit, ↓fin_nrm, ↓fin_ret, ↓fin_ret0, ↓fin_nrm0, ↓fin_ret2, ↓rd_nrm, ↓rd_exit, ↓rd_ret, ↓cIf_true, ↓cIf_false, ↓VO_nil, ↓VO_go, ↓VO_if, ↓nx_some, ↓nx_none, putD_some, putD_none, ↓V_p, ↓V_r, ↓V_a, ↓V_e, ↓V_call, ↓V_inv, ↓oQ_some, ↓oP_some, ↓oA_some, ↓oC_some, gO_true, gO_false, ↓gO_true, ↓gO_false, cIf_true, cIf_false, oQ_some, oP_some, oA_some, oC_some, oV_some,  reserve0, ↓D_nil, ↓D_p, ↓D_r, ↓nd_some, ↓ndr_some, ↓oV_some, ↓ev_rst, has_cons, has_nil, P_mv, P_pick, pickV_true, pickV_false, P_bin, P_un, P_cnv, cnvV_int, P_mkif, P_mkfn, P_fadr, P_fld, P_iadr, P_idx, P_len, P_mn, P_mx, foldV_two, mn2_int, mx2_int, unA_not, unA_neg, B_add, B_sub, B_mul, B_quo, B_rem, B_eql, B_neq, B_lss, B_leq, B_gtr, B_geq, R_load, wants_ev, gV_t, gV_f, ↓evPut, ↓ev_c, ↓ev_f, ↓ev_g, isC_t, isC_c, isC_f, isC_g, ↓reduceIte, Nat.reduceEqDiff, Nat.reduceBEq, Bool.or_self, Bool.or_false, Bool.or_true, Bool.false_or, Bool.true_or, Bool.and_true, Bool.and_false, Bool.true_and, Bool.false_and, Bool.not_true, Bool.not_false, Bool.false_eq_true, ofArgs, List.map_cons, List.map_nil, List.nil_append, List.append_nil, List.cons_append, Nat.reduceAdd, calleeA, beq_self_eq_true, decide_true, decide_false, L.t10, L.t11, L.t13, L.t14, nD, lenV_own t38]
    refine VC.loop (I10b H f (d2 us vs) us vs ws) (fun d t H' h => loop10b (E := envT ext10) rfl hf9 d t H' h ?_) (d := 4) ⟨0, xs, ys, rfl, ⟨L.wf, L.n, m, fun j hj => by omega, ?_, ?_, ?_, ?_, ?_, ?_, ?_, ?_⟩⟩
    · intro t2 H2 ⟨i, xs, ys, hi, M⟩
      have hi4 : i = 4 := by omega
      subst hi4
      clear h
      have m := M.m
      have sx : small xs := fun z hz => by
        obtain ⟨j, hj, rfl⟩ := List.getElem_of_mem hz
        have h1 := M.rel j (by have := m.lx; omega)
        have h2 := in5_get m.bu m.lu j (by have := m.lx; omega)
        have h3 := mul_f (x := us.getD j 0) (X := 100000) hf9 (by omega)
        have : xs.getD j 0 = xs[j] := by simp [List.getD, hj]
        omega
      have sy : small ys := fun z hz => by
        obtain ⟨j, hj, rfl⟩ := List.getElem_of_mem hz
        have h1 := M.rel j (by have := m.ly; omega)
        have h2 := in5_get m.bv m.lv j (by have := m.ly; omega)
        have h3 := mul_f (x := vs.getD j 0) (X := 100000) hf9 (by omega)
        have : ys.getD j 0 = ys[j] := by simp [List.getD, hj]
        omega
      have iu := isl_own m.u m.lu su
      have iv := isl_own m.v m.lv sv
      have ix := isl_own m.x m.lx sx
      have iy := isl_own m.y m.ly sy
      have b3 := m.lx
      have b4 := m.ly
      have hG := dp_bound m.bu m.bv m.lu m.lv
      have hA := d2_bound m.bu in5_zero m.lu rfl
      have hB := d2_bound m.bv in5_zero m.lv rfl
      have q1 : scoreF 1 xs ys 0 = d2 us vs * f * f := by rw [score1 sx sy m.lx, d2_scale m.lu m.lv m.lx m.ly M.rel]
      have q2 : scoreF 2 xs vs 0 = f * (0 - dp us vs) := by rw [score2 sx sv m.lx, dp_scale m.lu m.lv m.lx (fun j hj => (M.rel j hj).1)]; grind
      have q3 : scoreF 2 us vs 0 = 0 - dp us vs := score2 su sv m.lu
      have z4 : (List.replicate 4 (0 : Int)).length = 4 := rfl
      have q4 : scoreF 1 us (List.replicate 4 0) 0 = d2 us (List.replicate 4 0) := score1 su (in5_small in5_zero) m.lu
      have q5 : scoreF 1 vs (List.replicate 4 0) 0 = d2 vs (List.replicate 4 0) := score1 sv (in5_small in5_zero) m.lv
      have q6 := d2_split m.lu m.lv
      have w0 : IntKind.i64.wrap f = f := wrap64_id (by omega) (by omega)
      have c1 := mul_f (x := d2 us vs) (X := 160000000000) hf9 (by omega)
      have c2 : d2 us vs * f = f * d2 us vs := by grind
      have w1 : IntKind.i64.wrap (d2 us vs * f) = d2 us vs * f := wrap64_id (by omega) (by omega)
      have c3 := mul_f (x := d2 us vs * f) (X := 1280000000000) hf9 (by omega)
      have c4 : d2 us vs * f * f = f * (d2 us vs * f) := by grind
      have w2 : IntKind.i64.wrap (d2 us vs * f * f) = d2 us vs * f * f := wrap64_id (by omega) (by omega)
      have c5 := mul_f (x := 0 - dp us vs) (X := 40000000000) hf9 (by omega)
      have w3 : IntKind.i64.wrap (f * (0 - dp us vs)) = f * (0 - dp us vs) := wrap64_id (by omega) (by omega)
      have w4 : IntKind.i64.wrap (d2 us (List.replicate 4 0) + d2 vs (List.replicate 4 0)) = d2 us (List.replicate 4 0) + d2 vs (List.replicate 4 0) := wrap64_id (by omega) (by omega)
      have w5 : IntKind.i64.wrap (2 * (0 - dp us vs)) = 2 * (0 - dp us vs) := wrap64_id (by omega) (by omega)
      have w6 : IntKind.i64.wrap (d2 us (List.replicate 4 0) + d2 vs (List.replicate 4 0) + 2 * (0 - dp us vs)) = d2 us vs := by rw [← q6]; exact wrap64_id (by omega) (by omega)
      have hw2 : ∀ s, H2.get (H2.n + s) = none := fun s => M.wf _ (by omega)
      have hw20 : H2.get H2.n = none := M.wf _ (by omega)
      have n2 := M.n
      have grow : ∀ {v : Value} {zs : List Int} {H3 : Hp}, IsSl .i32 H2 v zs → (∀ b, b < H2.n → H3.get b = H2.get b) → IsSl .i32 H3 v zs := fun h1 h2 => h1.grow M.wf h2
      have R0 : ∀ b, b < H2.n → (H2.reserve 2).get b = H2.get b := fun b _ => by rw [Hp.reserve_get]
      simp -implicitDefEqProofs only [↓D_if, gD_true, gD_false, ↓D_a, ↓D_e, ↓D_call, ↓ndc_0, Hp.get_put, Hp.get_alloc, ldR_lst, List.getElem?_map, List.length_map, List.length_set, A_mksl, E_store, omap_some, omap_none, bndV_none, ↓lp_nrm, ↓lp_exit, ↓lp_ret, ↓C_skip, ↓C_reg, ↓C_dreg, ↓C_seq, ↓C_cond, ↓C_blk, ↓C_loop, ↓C_exit, ↓C_ret, ↓sq_nrm, ↓sq_exit, ↓sq_ret, ↓outB_nrm, ↓outB_ret, ↓outB_exit, ↓fin_nrm, ↓fin_ret, ↓fin_ret0, ↓fin_nrm0, ↓fin_ret2, ↓rd_nrm, ↓rd_exit, ↓rd_ret, ↓cIf_true, ↓cIf_false, ↓VO_nil, ↓VO_go, ↓VO_if, ↓nx_some, ↓nx_none, putD_some, putD_none, ↓V_p, ↓V_r, ↓V_a, ↓V_e, ↓V_call, ↓V_inv, ↓oQ_some, ↓oP_some, ↓oA_some, ↓oC_some, gO_true, gO_false, ↓gO_true, ↓gO_false, cIf_true, cIf_false, oQ_some, oP_some, oA_some, oC_some, oV_some,  reserve0, ↓D_nil, ↓D_p, ↓D_r, ↓nd_some, ↓ndr_some, ↓oV_some, ↓ev_rst, has_cons, has_nil, P_mv, P_pick, pickV_true, pickV_false, P_bin, P_un, P_cnv, cnvV_int, P_mkif, P_mkfn, P_fadr, P_fld, P_iadr, P_idx, P_len, P_mn, P_mx, foldV_two, mn2_int, mx2_int, unA_not, unA_neg, B_add, B_sub, B_mul, B_quo, B_rem, B_eql, B_neq, B_lss, B_leq, B_gtr, B_geq, R_load, wants_ev, gV_t, gV_f, ↓evPut, ↓ev_c, ↓ev_f, ↓ev_g, isC_t, isC_c, isC_f, isC_g, ↓reduceIte, Nat.reduceEqDiff, Nat.reduceBEq, Bool.or_self, Bool.or_false, Bool.or_true, Bool.false_or, Bool.true_or, Bool.and_true, Bool.and_false, Bool.true_and, Bool.false_and, Bool.not_true, Bool.not_false, Bool.false_eq_true, ofArgs, List.map_cons, List.map_nil, List.nil_append, List.append_nil, List.cons_append, Nat.reduceAdd, calleeA, beq_self_eq_true, decide_true, decide_false, M.t3, M.t10, M.t11, M.t13, M.t14, M.t16]
      refine WF.ext (E := envT ext10) (f := 45) (g := g45) rfl (g45_run (grow ix R0) (grow iy R0) (by omega) (by omega) 1) ?_
      rw [q1]
      simp -implicitDefEqProofs only [↓D_if, gD_true, gD_false, ↓D_a, ↓D_e, ↓D_call, ↓ndc_0, Hp.get_put, Hp.get_alloc, ldR_lst, List.getElem?_map, List.length_map, List.length_set, A_mksl, E_store, omap_some, omap_none, bndV_none, ↓lp_nrm, ↓lp_exit, ↓lp_ret, ↓C_skip, ↓C_reg, ↓C_dreg, ↓C_seq, ↓C_cond, ↓C_blk, ↓C_loop, ↓C_exit, ↓C_ret, ↓sq_nrm, ↓sq_exit, ↓sq_ret, ↓outB_nrm, ↓outB_ret, ↓outB_exit, ↓fin_nrm, ↓fin_ret, ↓fin_ret0, ↓fin_nrm0, ↓fin_ret2, ↓rd_nrm, ↓rd_exit, ↓rd_ret, ↓cIf_true, ↓cIf_false, ↓VO_nil, ↓VO_go, ↓VO_if, ↓nx_some, ↓nx_none, putD_some, putD_none, ↓V_p, ↓V_r, ↓V_a, ↓V_e, ↓V_call, ↓V_inv, ↓oQ_some, ↓oP_some, ↓oA_some, ↓oC_some, gO_true, gO_false, ↓gO_true, ↓gO_false, cIf_true, cIf_false, oQ_some, oP_some, oA_some, oC_some, oV_some,  reserve0, ↓D_nil, ↓D_p, ↓D_r, ↓nd_some, ↓ndr_some, ↓oV_some, ↓ev_rst, has_cons, has_nil, P_mv, P_pick, pickV_true, pickV_false, P_bin, P_un, P_cnv, cnvV_int, P_mkif, P_mkfn, P_fadr, P_fld, P_iadr, P_idx, P_len, P_mn, P_mx, foldV_two, mn2_int, mx2_int, unA_not, unA_neg, B_add, B_sub, B_mul, B_quo, B_rem, B_eql, B_neq, B_lss, B_leq, B_gtr, B_geq, R_load, wants_ev, gV_t, gV_f, ↓evPut, ↓ev_c, ↓ev_f, ↓ev_g, isC_t, isC_c, isC_f, isC_g, ↓reduceIte, Nat.reduceEqDiff, Nat.reduceBEq, Bool.or_self, Bool.or_false, Bool.or_true, Bool.false_or, Bool.true_or, Bool.and_true, Bool.and_false, Bool.true_and, Bool.false_and, Bool.not_true, Bool.not_false, Bool.false_eq_true, ofArgs, List.map_cons, List.map_nil, List.nil_append, List.append_nil, List.cons_append, Nat.reduceAdd, calleeA, beq_self_eq_true, decide_true, decide_false, M.t3, M.t10, M.t11, M.t13, M.t14, M.t16, w0, w1, w2, eq_self]
      refine WF.ext (E := envT ext10) (f := 45) (g := g45) rfl (g45_run (grow ix R0) (grow iv R0) (by omega) (by omega) 2) ?_
      rw [q2]
      simp -implicitDefEqProofs only [↓D_if, gD_true, gD_false, ↓D_a, ↓D_e, ↓D_call, ↓ndc_0, Hp.get_put, Hp.get_alloc, ldR_lst, List.getElem?_map, List.length_map, List.length_set, A_mksl, E_store, omap_some, omap_none, bndV_none, ↓lp_nrm, ↓lp_exit, ↓lp_ret, ↓C_skip, ↓C_reg, ↓C_dreg, ↓C_seq, ↓C_cond, ↓C_blk, ↓C_loop, ↓C_exit, ↓C_ret, ↓sq_nrm, ↓sq_exit, ↓sq_ret, ↓outB_nrm, ↓outB_ret, ↓outB_exit, ↓fin_nrm, ↓fin_ret, ↓fin_ret0, ↓fin_nrm0, ↓fin_ret2, ↓rd_nrm, ↓rd_exit, ↓rd_ret, ↓cIf_true, ↓cIf_false, ↓VO_nil, ↓VO_go, ↓VO_if, ↓nx_some, ↓nx_none, putD_some, putD_none, ↓V_p, ↓V_r, ↓V_a, ↓V_e, ↓V_call, ↓V_inv, ↓oQ_some, ↓oP_some, ↓oA_some, ↓oC_some, gO_true, gO_false, ↓gO_true, ↓gO_false, cIf_true, cIf_false, oQ_some, oP_some, oA_some, oC_some, oV_some,  reserve0, ↓D_nil, ↓D_p, ↓D_r, ↓nd_some, ↓ndr_some, ↓oV_some, ↓ev_rst, has_cons, has_nil, P_mv, P_pick, pickV_true, pickV_false, P_bin, P_un, P_cnv, cnvV_int, P_mkif, P_mkfn, P_fadr, P_fld, P_iadr, P_idx, P_len, P_mn, P_mx, foldV_two, mn2_int, mx2_int, unA_not, unA_neg, B_add, B_sub, B_mul, B_quo, B_rem, B_eql, B_neq, B_lss, B_leq, B_gtr, B_geq, R_load, wants_ev, gV_t, gV_f, ↓evPut, ↓ev_c, ↓ev_f, ↓ev_g, isC_t, isC_c, isC_f, isC_g, ↓reduceIte, Nat.reduceEqDiff, Nat.reduceBEq, Bool.or_self, Bool.or_false, Bool.or_true, Bool.false_or, Bool.true_or, Bool.and_true, Bool.and_false, Bool.true_and, Bool.false_and, Bool.not_true, Bool.not_false, Bool.false_eq_true, ofArgs, List.map_cons, List.map_nil, List.nil_append, List.append_nil, List.cons_append, Nat.reduceAdd, calleeA, beq_self_eq_true, decide_true, decide_false, M.t3, M.t10, M.t11, M.t13, M.t14, M.t16, w0, w1, w2, eq_self]
      refine WF.ext (E := envT ext10) (f := 45) (g := g45) rfl (g45_run (grow iu R0) (grow iv R0) (by omega) (by omega) 2) ?_
      rw [q3]
      simp -implicitDefEqProofs only [↓D_if, gD_true, gD_false, ↓D_a, ↓D_e, ↓D_call, ↓ndc_0, Hp.get_put, Hp.get_alloc, ldR_lst, List.getElem?_map, List.length_map, List.length_set, A_mksl, E_store, omap_some, omap_none, bndV_none, ↓lp_nrm, ↓lp_exit, ↓lp_ret, ↓C_skip, ↓C_reg, ↓C_dreg, ↓C_seq, ↓C_cond, ↓C_blk, ↓C_loop, ↓C_exit, ↓C_ret, ↓sq_nrm, ↓sq_exit, ↓sq_ret, ↓outB_nrm, ↓outB_ret, ↓outB_exit, ↓fin_nrm, ↓fin_ret, ↓fin_ret0, ↓fin_nrm0, ↓fin_ret2, ↓rd_nrm, ↓rd_exit, ↓rd_ret, ↓cIf_true, ↓cIf_false, ↓VO_nil, ↓VO_go, ↓VO_if, ↓nx_some, ↓nx_none, putD_some, putD_none, ↓V_p, ↓V_r, ↓V_a, ↓V_e, ↓V_call, ↓V_inv, ↓oQ_some, ↓oP_some, ↓oA_some, ↓oC_some, gO_true, gO_false, ↓gO_true, ↓gO_false, cIf_true, cIf_false, oQ_some, oP_some, oA_some, oC_some, oV_some,  reserve0, ↓D_nil, ↓D_p, ↓D_r, ↓nd_some, ↓ndr_some, ↓oV_some, ↓ev_rst, has_cons, has_nil, P_mv, P_pick, pickV_true, pickV_false, P_bin, P_un, P_cnv, cnvV_int, P_mkif, P_mkfn, P_fadr, P_fld, P_iadr, P_idx, P_len, P_mn, P_mx, foldV_two, mn2_int, mx2_int, unA_not, unA_neg, B_add, B_sub, B_mul, B_quo, B_rem, B_eql, B_neq, B_lss, B_leq, B_gtr, B_geq, R_load, wants_ev, gV_t, gV_f, ↓evPut, ↓ev_c, ↓ev_f, ↓ev_g, isC_t, isC_c, isC_f, isC_g, ↓reduceIte, Nat.reduceEqDiff, Nat.reduceBEq, Bool.or_self, Bool.or_false, Bool.or_true, Bool.false_or, Bool.true_or, Bool.and_true, Bool.and_false, Bool.true_and, Bool.false_and, Bool.not_true, Bool.not_false, Bool.false_eq_true, ofArgs, List.map_cons, List.map_nil, List.nil_append, List.append_nil, List.cons_append, Nat.reduceAdd, calleeA, beq_self_eq_true, decide_true, decide_false, M.t3, M.t10, M.t11, M.t13, M.t14, M.t16, w0, w1, w2, w3, eq_self]
      refine WF.ext (E := envT ext10) (f := 45) (g := g45) rfl (g45_run (grow iu R0) (grow iv R0) (by omega) (by omega) 1) ?_
      rw [e1]
      simp -implicitDefEqProofs only [↓D_if, gD_true, gD_false, ↓D_a, ↓D_e, ↓D_call, ↓ndc_0, Hp.get_put, Hp.get_alloc, ldR_lst, List.getElem?_map, List.length_map, List.length_set, A_mksl, E_store, omap_some, omap_none, bndV_none, ↓lp_nrm, ↓lp_exit, ↓lp_ret, ↓C_skip, ↓C_reg, ↓C_dreg, ↓C_seq, ↓C_cond, ↓C_blk, ↓C_loop, ↓C_exit, ↓C_ret, ↓sq_nrm, ↓sq_exit, ↓sq_ret, ↓outB_nrm, ↓outB_ret, ↓outB_exit, ↓fin_nrm, ↓fin_ret, ↓fin_ret0, ↓fin_nrm0, ↓fin_ret2, ↓rd_nrm, ↓rd_exit, ↓rd_ret, ↓cIf_true, ↓cIf_false, ↓VO_nil, ↓VO_go, ↓VO_if, ↓nx_some, ↓nx_none, putD_some, putD_none, ↓V_p, ↓V_r, ↓V_a, ↓V_e, ↓V_call, ↓V_inv, ↓oQ_some, ↓oP_some, ↓oA_some, ↓oC_some, gO_true, gO_false, ↓gO_true, ↓gO_false, cIf_true, cIf_false, oQ_some, oP_some, oA_some, oC_some, oV_some,  reserve0, ↓D_nil, ↓D_p, ↓D_r, ↓nd_some, ↓ndr_some, ↓oV_some, ↓ev_rst, has_cons, has_nil, P_mv, P_pick, pickV_true, pickV_false, P_bin, P_un, P_cnv, cnvV_int, P_mkif, P_mkfn, P_fadr, P_fld, P_iadr, P_idx, P_len, P_mn, P_mx, foldV_two, mn2_int, mx2_int, unA_not, unA_neg, B_add, B_sub, B_mul, B_quo, B_rem, B_eql, B_neq, B_lss, B_leq, B_gtr, B_geq, R_load, wants_ev, gV_t, gV_f, ↓evPut, ↓ev_c, ↓ev_f, ↓ev_g, isC_t, isC_c, isC_f, isC_g, ↓reduceIte, Nat.reduceEqDiff, Nat.reduceBEq, Bool.or_self, Bool.or_false, Bool.or_true, Bool.false_or, Bool.true_or, Bool.and_true, Bool.and_false, Bool.true_and, Bool.false_and, Bool.not_true, Bool.not_false, Bool.false_eq_true, ofArgs, List.map_cons, List.map_nil, List.nil_append, List.append_nil, List.cons_append, Nat.reduceAdd, calleeA, beq_self_eq_true, decide_true, decide_false, M.t3, M.t10, M.t11, M.t13, M.t14, M.t16, w0, w1, w2, w3, eq_self, mk4 (E := envT ext10) rfl, oAd_row, List.all_cons, List.all_nil, Hp.reserve_get, Hp.reserve_n, Hp.put_n, hw2, hw20, Option.isNone_none, Nat.add_zero]
      have G1 : ∀ b, b < H2.n → ((H2.reserve 2).put H2.n (some (.row (.lst ((List.replicate 4 0).map (Value.int .i32))) 0 true))).get b = H2.get b := fun b hb => by rw [Hp.get_put, if_neg (by omega), Hp.reserve_get]
      have I1 : IsSl .i32 ((H2.reserve 2).put H2.n (some (.row (.lst ((List.replicate 4 0).map (Value.int .i32))) 0 true))) (sl4 H2.n) (List.replicate 4 0) := isl_own (by unfold OwnR; rw [Hp.get_put, if_pos rfl]) rfl (in5_small in5_zero)
      refine WF.ext (E := envT ext10) (f := 45) (g := g45) rfl (g45_run (grow iu G1) I1 (by omega) (by omega) 1) ?_
      rw [q4]
      simp -implicitDefEqProofs only [↓D_if, gD_true, gD_false, ↓D_a, ↓D_e, ↓D_call, ↓ndc_0, Hp.get_put, Hp.get_alloc, ldR_lst, List.getElem?_map, List.length_map, List.length_set, A_mksl, E_store, omap_some, omap_none, bndV_none, ↓lp_nrm, ↓lp_exit, ↓lp_ret, ↓C_skip, ↓C_reg, ↓C_dreg, ↓C_seq, ↓C_cond, ↓C_blk, ↓C_loop, ↓C_exit, ↓C_ret, ↓sq_nrm, ↓sq_exit, ↓sq_ret, ↓outB_nrm, ↓outB_ret, ↓outB_exit, ↓fin_nrm, ↓fin_ret, ↓fin_ret0, ↓fin_nrm0, ↓fin_ret2, ↓rd_nrm, ↓rd_exit, ↓rd_ret, ↓cIf_true, ↓cIf_false, ↓VO_nil, ↓VO_go, ↓VO_if, ↓nx_some, ↓nx_none, putD_some, putD_none, ↓V_p, ↓V_r, ↓V_a, ↓V_e, ↓V_call, ↓V_inv, ↓oQ_some, ↓oP_some, ↓oA_some, ↓oC_some, gO_true, gO_false, ↓gO_true, ↓gO_false, cIf_true, cIf_false, oQ_some, oP_some, oA_some, oC_some, oV_some,  reserve0, ↓D_nil, ↓D_p, ↓D_r, ↓nd_some, ↓ndr_some, ↓oV_some, ↓ev_rst, has_cons, has_nil, P_mv, P_pick, pickV_true, pickV_false, P_bin, P_un, P_cnv, cnvV_int, P_mkif, P_mkfn, P_fadr, P_fld, P_iadr, P_idx, P_len, P_mn, P_mx, foldV_two, mn2_int, mx2_int, unA_not, unA_neg, B_add, B_sub, B_mul, B_quo, B_rem, B_eql, B_neq, B_lss, B_leq, B_gtr, B_geq, R_load, wants_ev, gV_t, gV_f, ↓evPut, ↓ev_c, ↓ev_f, ↓ev_g, isC_t, isC_c, isC_f, isC_g, ↓reduceIte, Nat.reduceEqDiff, Nat.reduceBEq, Bool.or_self, Bool.or_false, Bool.or_true, Bool.false_or, Bool.true_or, Bool.and_true, Bool.and_false, Bool.true_and, Bool.false_and, Bool.not_true, Bool.not_false, Bool.false_eq_true, ofArgs, List.map_cons, List.map_nil, List.nil_append, List.append_nil, List.cons_append, Nat.reduceAdd, calleeA, beq_self_eq_true, decide_true, decide_false, M.t3, M.t10, M.t11, M.t13, M.t14, M.t16, w0, w1, w2, w3, eq_self, mk4 (E := envT ext10) rfl, oAd_row, List.all_cons, List.all_nil, Hp.reserve_get, Hp.reserve_n, Hp.put_n, hw2, hw20, Option.isNone_none, Nat.add_zero, Nat.add_eq_left, Nat.left_eq_add]
      have G2 : ∀ b, b < H2.n → (((H2.reserve 2).put H2.n (some (.row (.lst ((List.replicate 4 0).map (Value.int .i32))) 0 true))).put (H2.n + 1) (some (.row (.lst ((List.replicate 4 0).map (Value.int .i32))) 0 true))).get b = H2.get b := fun b hb => by
        rw [Hp.get_put, if_neg (by omega)]; exact G1 b hb
      have I2 : IsSl .i32 (((H2.reserve 2).put H2.n (some (.row (.lst ((List.replicate 4 0).map (Value.int .i32))) 0 true))).put (H2.n + 1) (some (.row (.lst ((List.replicate 4 0).map (Value.int .i32))) 0 true))) (sl4 (H2.n + 1)) (List.replicate 4 0) := isl_own (by unfold OwnR; rw [Hp.get_put, if_pos rfl]) rfl (in5_small in5_zero)
      refine WF.ext (E := envT ext10) (f := 45) (g := g45) rfl (g45_run (grow iv G2) I2 (by omega) (by omega) 1) ?_
      rw [q5]
      simp -implicitDefEqProofs only [↓D_if, gD_true, gD_false, ↓D_a, ↓D_e, ↓D_call, ↓ndc_0, Hp.get_put, Hp.get_alloc, ldR_lst, List.getElem?_map, List.length_map, List.length_set, A_mksl, E_store, omap_some, omap_none, bndV_none, ↓lp_nrm, ↓lp_exit, ↓lp_ret, ↓C_skip, ↓C_reg, ↓C_dreg, ↓C_seq, ↓C_cond, ↓C_blk, ↓C_loop, ↓C_exit, ↓C_ret, ↓sq_nrm, ↓sq_exit, ↓sq_ret, ↓outB_nrm, ↓outB_ret, ↓outB_exit, ↓fin_nrm, ↓fin_ret, ↓fin_ret0, ↓fin_nrm0, ↓fin_ret2, ↓rd_nrm, ↓rd_exit, ↓rd_ret, ↓cIf_true, ↓cIf_false, ↓VO_nil, ↓VO_go, ↓VO_if, ↓nx_some, ↓nx_none, putD_some, putD_none, ↓V_p, ↓V_r, ↓V_a, ↓V_e, ↓V_call, ↓V_inv, ↓oQ_some, ↓oP_some, ↓oA_some, ↓oC_some, gO_true, gO_false, ↓gO_true, ↓gO_false, cIf_true, cIf_false, oQ_some, oP_some, oA_some, oC_some, oV_some,  reserve0, ↓D_nil, ↓D_p, ↓D_r, ↓nd_some, ↓ndr_some, ↓oV_some, ↓ev_rst, has_cons, has_nil, P_mv, P_pick, pickV_true, pickV_false, P_bin, P_un, P_cnv, cnvV_int, P_mkif, P_mkfn, P_fadr, P_fld, P_iadr, P_idx, P_len, P_mn, P_mx, foldV_two, mn2_int, mx2_int, unA_not, unA_neg, B_add, B_sub, B_mul, B_quo, B_rem, B_eql, B_neq, B_lss, B_leq, B_gtr, B_geq, R_load, wants_ev, gV_t, gV_f, ↓evPut, ↓ev_c, ↓ev_f, ↓ev_g, isC_t, isC_c, isC_f, isC_g, ↓reduceIte, Nat.reduceEqDiff, Nat.reduceBEq, Bool.or_self, Bool.or_false, Bool.or_true, Bool.false_or, Bool.true_or, Bool.and_true, Bool.and_false, Bool.true_and, Bool.false_and, Bool.not_true, Bool.not_false, Bool.false_eq_true, ofArgs, List.map_cons, List.map_nil, List.nil_append, List.append_nil, List.cons_append, Nat.reduceAdd, calleeA, beq_self_eq_true, decide_true, decide_false, M.t3, M.t10, M.t11, M.t13, M.t14, M.t16, w4, eq_self]
      refine WF.ext (E := envT ext10) (f := 45) (g := g45) rfl (g45_run (grow iu G2) (grow iv G2) (by omega) (by omega) 2) ?_
      rw [q3]
      simp -implicitDefEqProofs only [↓D_if, gD_true, gD_false, ↓D_a, ↓D_e, ↓D_call, ↓ndc_0, Hp.get_put, Hp.get_alloc, ldR_lst, List.getElem?_map, List.length_map, List.length_set, A_mksl, E_store, omap_some, omap_none, bndV_none, ↓lp_nrm, ↓lp_exit, ↓lp_ret, ↓C_skip, ↓C_reg, ↓C_dreg, ↓C_seq, ↓C_cond, ↓C_blk, ↓C_loop, ↓C_exit, ↓C_ret, ↓sq_nrm, ↓sq_exit, ↓sq_ret, ↓outB_nrm, ↓outB_ret, ↓outB_exit, ↓fin_nrm, ↓fin_ret, ↓fin_ret0, ↓fin_nrm0, ↓fin_ret2, ↓rd_nrm, ↓rd_exit, ↓rd_ret, ↓cIf_true, ↓cIf_false, ↓VO_nil, ↓VO_go, ↓VO_if, ↓nx_some, ↓nx_none, putD_some, putD_none, ↓V_p, ↓V_r, ↓V_a, ↓V_e, ↓V_call, ↓V_inv, ↓oQ_some, ↓oP_some, ↓oA_some, ↓oC_some, gO_true, gO_false, ↓gO_true, ↓gO_false, cIf_true, cIf_false, oQ_some, oP_some, oA_some, oC_some, oV_some,  reserve0, ↓D_nil, ↓D_p, ↓D_r, ↓nd_some, ↓ndr_some, ↓oV_some, ↓ev_rst, has_cons, has_nil, P_mv, P_pick, pickV_true, pickV_false, P_bin, P_un, P_cnv, cnvV_int, P_mkif, P_mkfn, P_fadr, P_fld, P_iadr, P_idx, P_len, P_mn, P_mx, foldV_two, mn2_int, mx2_int, unA_not, unA_neg, B_add, B_sub, B_mul, B_quo, B_rem, B_eql, B_neq, B_lss, B_leq, B_gtr, B_geq, R_load, wants_ev, gV_t, gV_f, ↓evPut, ↓ev_c, ↓ev_f, ↓ev_g, isC_t, isC_c, isC_f, isC_g, ↓reduceIte, Nat.reduceEqDiff, Nat.reduceBEq, Bool.or_self, Bool.or_false, Bool.or_true, Bool.false_or, Bool.true_or, Bool.and_true, Bool.and_false, Bool.true_and, Bool.false_and, Bool.not_true, Bool.not_false, Bool.false_eq_true, ofArgs, List.map_cons, List.map_nil, List.nil_append, List.append_nil, List.cons_append, Nat.reduceAdd, calleeA, beq_self_eq_true, decide_true, decide_false, w4, w5, w6, eq_self]
    all_goals (simp only [↓evPut, ↓ev_c, ↓reduceIte, Nat.reduceEqDiff] <;> first | exact L.t3 | exact L.t10 | exact L.t11 | exact L.t13 | exact L.t14 | rfl)
  · refine ⟨fun id hid => ?_, fun b hb => ?_, rfl, ⟨?_, ?_, ?_, ?_, ?_, rfl, rfl, rfl, rfl, rfl, in5_zero, in5_zero, in5_zero⟩, fun j hj => by omega, ?_, ?_, ?_, ?_, ?_, ?_, ?_, ?_, ?_, ?_⟩
    · have hid : H.n + 5 ≤ id := hid
      rw [Hp.get_put, if_neg (by omega), Hp.get_put, if_neg (by omega), Hp.reserve_get, Hp.get_put, if_neg (by omega), Hp.get_put, if_neg (by omega), Hp.get_put, if_neg (by omega), Hp.reserve_get]
      exact wf id (by omega)
    · rw [Hp.get_put, if_neg (by omega), Hp.get_put, if_neg (by omega), Hp.reserve_get, Hp.get_put, if_neg (by omega), Hp.get_put, if_neg (by omega), Hp.get_put, if_neg (by omega), Hp.reserve_get]
    · unfold OwnR; rw [Hp.get_put, if_neg (by omega), Hp.get_put, if_neg (by omega), Hp.reserve_get, Hp.get_put, if_neg (by omega), Hp.get_put, if_neg (by omega), Hp.get_put, if_pos rfl]
    · unfold OwnR; rw [Hp.get_put, if_neg (by omega), Hp.get_put, if_neg (by omega), Hp.reserve_get, Hp.get_put, if_neg (by omega), Hp.get_put, if_pos rfl]
    · unfold OwnR; rw [Hp.get_put, if_neg (by omega), Hp.get_put, if_neg (by omega), Hp.reserve_get, Hp.get_put, if_pos rfl]
    · unfold OwnR; rw [Hp.get_put, if_neg (by omega), Hp.get_put, if_pos rfl]
    · unfold OwnR; rw [Hp.get_put, if_pos rfl]
    all_goals (simp only [↓evPut, ↓ev_c, ↓reduceIte, Nat.reduceEqDiff]; try rfl)
end Go.Proofs.YtaegmplbkbaniaaGreatDoor
