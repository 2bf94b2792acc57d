import Derived.Test.YtekoolanpphbfaaA23
set_option linter.unusedSimpArgs false
set_option linter.unusedVariables false
set_option linter.unnecessarySimpa false
namespace Go.A.Seat
/- 3 bowline/bowlinelaw29.SplitShares params #[3, 22] results #[4] -/
def ann3 : Ann := ⟨[], [(1, [4]), (2, [0, 1, 12, 13, 14]), (3, [12, 13, 14]), (6, [20, 21]), (8, [16, 17, 18, 19]), (9, [22, 23, 24, 25, 26, 27, 28, 29, 30, 31, 32, 33, 34, 35, 36, 37, 38, 39, 40, 41, 42, 43, 44, 45]), (7, [46, 47, 48, 49, 50, 51, 52, 53, 54, 55, 56, 57, 58, 59]), (10, [7, 16, 17, 18, 19]), (11, [60, 61, 62, 63, 64, 65]), (12, [0, 66, 67, 68, 69, 70, 71])]⟩
def lp3_0 : SCode :=
  .seq (.seq (.region [20, 21] [⟨(some 16), .mov (.t 7), none⟩,
    ⟨(some 17), .mov (.t 1), none⟩,
    ⟨(some 18), .len .sl (.t 17), none⟩,
    ⟨(some 19), .bin .lss .no (.t 16) (.t 18), none⟩])
  (.cond (.t 19)
    (.skip)
    (.exit 0)))
  (.seq (.block 1 (.seq (.drawn [16, 17, 18, 19] [⟨0, ⟨(some 22), .mov (.t 5), none⟩, []⟩,
      ⟨1, ⟨(some 23), .mov (.t 1), none⟩, []⟩,
      ⟨2, ⟨(some 24), .mov (.t 7), none⟩, []⟩,
      ⟨3, ⟨(some 25), .iaddr 4 none (.t 23) (.t 24), none⟩, []⟩,
      ⟨4, ⟨(some 26), .faddr 0 (.t 25), none⟩, []⟩,
      ⟨5, ⟨(some 27), .load none (.t 26), none⟩, []⟩,
      ⟨6, ⟨(some 28), .mov (.t 1), none⟩, []⟩,
      ⟨7, ⟨(some 29), .mov (.t 7), none⟩, []⟩,
      ⟨8, ⟨(some 30), .iaddr 4 none (.t 28) (.t 29), none⟩, []⟩,
      ⟨9, ⟨(some 31), .faddr 1 (.t 30), none⟩, []⟩,
      ⟨10, ⟨(some 32), .load none (.t 31), none⟩, []⟩,
      ⟨11, ⟨(some 33), .mov (.t 1), none⟩, []⟩,
      ⟨12, ⟨(some 34), .mov (.t 7), none⟩, []⟩,
      ⟨13, ⟨(some 35), .iaddr 4 none (.t 33) (.t 34), none⟩, []⟩,
      ⟨14, ⟨(some 36), .faddr 2 (.t 35), none⟩, []⟩,
      ⟨15, ⟨(some 37), .load none (.t 36), none⟩, []⟩,
      ⟨16, ⟨(some 38), .mov (.t 1), none⟩, []⟩,
      ⟨17, ⟨(some 39), .mov (.t 7), none⟩, []⟩,
      ⟨18, ⟨(some 40), .iaddr 4 none (.t 38) (.t 39), none⟩, []⟩,
      ⟨19, ⟨(some 41), .faddr 3 (.t 40), none⟩, []⟩,
      ⟨20, ⟨(some 42), .load none (.t 41), none⟩, []⟩,
      ⟨21, ⟨(some 43), .build [(.c (.int .i64 0)), (.c (.int .i64 0)), (.c (.int .i64 0)), (.c (.int .i64 0))] [(0, 1, (.t 27)), (1, 1, (.t 32)), (2, 1, (.t 37)), (3, 1, (.t 42))], none⟩, []⟩,
      ⟨22, ⟨(some 44), .bslice 1 4 [(.c (.int .i64 0)), (.c (.int .i64 0)), (.c (.int .i64 0)), (.c (.int .i64 0))] [(0, 4, (.t 43))], none⟩, []⟩,
      ⟨23, ⟨(some 45), .append 4 32 (.t 22) (.t 44), none⟩, []⟩,
      ⟨24, ⟨(some 5), .mov (.t 45), none⟩, []⟩])
    (.drawn [22, 23, 24, 25, 26, 27, 28, 29, 30, 31, 32, 33, 34, 35, 36, 37, 38, 39, 40, 41, 42, 43, 44, 45] [⟨0, ⟨(some 46), .mov (.t 6), none⟩, []⟩,
      ⟨1, ⟨(some 47), .mov (.t 46), none⟩, []⟩,
      ⟨2, ⟨(some 48), .mov (.t 1), some (47, true)⟩, []⟩,
      ⟨3, ⟨(some 49), .mov (.t 7), some (47, true)⟩, []⟩,
      ⟨4, ⟨(some 50), .iaddr 4 none (.t 48) (.t 49), some (47, true)⟩, []⟩,
      ⟨5, ⟨(some 51), .load (some 4) (.t 50), some (47, true)⟩, []⟩,
      ⟨7, ⟨(some 53), .mov (.t 5), some (47, true)⟩, []⟩,
      ⟨8, ⟨(some 54), .mov (.t 7), some (47, true)⟩, []⟩,
      ⟨9, ⟨(some 55), .iaddr 4 none (.t 53) (.t 54), some (47, true)⟩, []⟩,
      ⟨10, ⟨(some 56), .load (some 4) (.t 55), some (47, true)⟩, []⟩,
      ⟨6, ⟨(some 52), .call 11 [(.t 51)], some (47, true)⟩, [10]⟩,
      ⟨11, ⟨(some 57), .call 12 [(.t 56)], some (47, true)⟩, []⟩,
      ⟨12, ⟨(some 58), .bin .eql .bool (.t 52) (.t 57), some (47, true)⟩, []⟩,
      ⟨13, ⟨(some 59), .pick (.t 47) (.t 58) (.k (.c (.bool false))), none⟩, []⟩,
      ⟨14, ⟨(some 6), .mov (.t 59), none⟩, []⟩])))
  (.region [46, 47, 48, 49, 50, 51, 52, 53, 54, 55, 56, 57, 58, 59] [⟨(some 20), .mov (.t 7), none⟩,
    ⟨(some 21), .bin .add .no (.t 20) (.k (.c (.int .i64 1))), none⟩,
    ⟨(some 7), .mov (.t 21), none⟩]))
def code3 : SCode :=
  .seq (.region [] [⟨(some 4), .mov (.k (.c (.bool false))), none⟩])
  (.seq (.seq (.region [4] [⟨(some 12), .mov (.t 1), none⟩,
    ⟨(some 13), .len .sl (.t 12), none⟩,
    ⟨(some 14), .bin .gtr .no (.t 13) (.k (.c (.int .i64 60))), none⟩])
  (.cond (.t 14)
    (.seq (.region [0, 1, 12, 13, 14] [⟨(some 15), .call 10 [], none⟩,
      ⟨(some 4), .mov (.t 15), none⟩])
    (.ret))
    (.skip)))
  (.seq (.region [12, 13, 14] [⟨(some 5), .mov (.k (.c (.slice none 0 0))), none⟩])
  (.seq (.region [] [⟨(some 6), .mov (.k (.c (.bool true))), none⟩])
  (.seq (.seq (.region [] [⟨(some 7), .mov (.k (.c (.int .i64 0))), none⟩])
  (.block 0 (.loop lp3_0)))
  (.seq (.region [7, 16, 17, 18, 19] [⟨(some 61), .mov (.t 0), none⟩,
    ⟨(some 62), .mov (.t 1), none⟩,
    ⟨(some 63), .call 13 [(.t 61), (.t 62)], none⟩,
    ⟨(some 60), .mov (.t 63), none⟩,
    ⟨(some 64), .ext (.t 60) 0, none⟩,
    ⟨(some 65), .ext (.t 60) 1, none⟩,
    ⟨(some 8), .mov (.t 64), none⟩,
    ⟨(some 9), .mov (.t 65), none⟩])
  (.seq (.region [60, 61, 62, 63, 64, 65] [⟨(some 67), .mov (.t 0), none⟩,
    ⟨(some 68), .mov (.t 5), none⟩,
    ⟨(some 69), .call 14 [(.t 67), (.t 68)], none⟩,
    ⟨(some 66), .mov (.t 69), none⟩,
    ⟨(some 70), .ext (.t 66) 0, none⟩,
    ⟨(some 71), .ext (.t 66) 1, none⟩,
    ⟨(some 10), .mov (.t 70), none⟩,
    ⟨(some 11), .mov (.t 71), none⟩])
  (.seq (.region [0, 66, 67, 68, 69, 70, 71] [⟨(some 72), .call 10 [], none⟩,
    ⟨(some 73), .mov (.t 72), none⟩,
    ⟨(some 74), .mov (.t 6), some (73, true)⟩,
    ⟨(some 75), .pick (.t 73) (.t 74) (.k (.c (.bool false))), none⟩,
    ⟨(some 76), .mov (.t 75), none⟩,
    ⟨(some 77), .mov (.t 8), some (76, true)⟩,
    ⟨(some 78), .mov (.t 10), some (76, true)⟩,
    ⟨(some 79), .call 15 [(.t 77), (.t 78)], some (76, true)⟩,
    ⟨(some 80), .pick (.t 76) (.t 79) (.k (.c (.bool false))), none⟩,
    ⟨(some 81), .mov (.t 80), none⟩,
    ⟨(some 82), .mov (.t 9), some (81, true)⟩,
    ⟨(some 83), .mov (.t 11), some (81, true)⟩,
    ⟨(some 84), .bin .eql .no (.t 82) (.t 83), some (81, true)⟩,
    ⟨(some 85), .pick (.t 81) (.t 84) (.k (.c (.bool false))), none⟩,
    ⟨(some 86), .mov (.t 85), none⟩,
    ⟨(some 87), .mov (.t 1), some (86, true)⟩,
    ⟨(some 88), .call 16 [(.t 87)], some (86, true)⟩,
    ⟨(some 89), .mov (.t 5), some (86, true)⟩,
    ⟨(some 90), .call 17 [(.t 89)], some (86, true)⟩,
    ⟨(some 91), .call 15 [(.t 88), (.t 90)], some (86, true)⟩,
    ⟨(some 92), .pick (.t 86) (.t 91) (.k (.c (.bool false))), none⟩,
    ⟨(some 4), .mov (.t 92), none⟩])
  (.ret))))))))
def fun3 : SFun := ⟨code3, 93, [.tmp 4]⟩

/- 4 bowline/bowlinelaw29.SplitAll params #[3, 22] results #[4] -/
def ann4 : Ann := ⟨[13], [(1, [4]), (2, [0, 1, 14, 15, 16]), (3, [14, 15, 16]), (4, [18, 19, 20, 21, 22, 23]), (5, [0, 1, 6, 24, 25]), (6, [6, 24, 25]), (7, [0, 1, 5, 32, 33, 34, 35, 36]), (8, [32, 33, 34, 35, 36]), (10, [41, 42]), (12, [37, 38, 39, 40]), (13, [0, 1, 5, 7, 8, 9, 43, 44, 45, 46, 47, 48, 49, 50, 51, 52, 53, 54, 55, 56, 57, 58, 59]), (14, [43, 44, 45, 46, 47, 48, 49, 50, 51, 52, 53, 54, 55, 56, 57, 58, 59]), (11, [60, 61, 62, 63, 64, 65, 66, 67, 68, 69, 70, 71, 72, 73, 74, 75, 76, 77, 78]), (15, [9, 37, 38, 39, 40]), (16, [79, 80]), (18, [85, 86]), (20, [81, 82, 83, 84]), (21, [87, 88, 89, 90, 91, 92, 93]), (22, [94, 95, 96, 97]), (23, [0, 1, 5, 7, 8, 10, 11, 12, 13, 98, 99, 100, 101, 102, 103, 104, 105, 106, 107, 108, 109, 110, 111, 112, 113, 114, 115, 116, 117, 118, 119, 120, 121, 122, 123, 124, 125, 126, 127, 128, 129, 130, 131, 132, 133, 134, 135, 136, 137]), (19, [13, 98, 99, 100, 101, 102, 103, 104, 105, 106, 107, 108, 109, 110, 111, 112, 113, 114, 115, 116, 117, 118, 119, 120, 121, 122, 123, 124, 125, 126, 127, 128, 129, 130, 131, 132, 133, 134, 135, 136, 137]), (24, [1, 5, 10, 11, 12, 81, 82, 83, 84])]⟩
def lp4_0 : SCode :=
  .seq (.seq (.region [41, 42] [⟨(some 37), .mov (.t 9), none⟩,
    ⟨(some 38), .mov (.t 1), none⟩,
    ⟨(some 39), .len .sl (.t 38), none⟩,
    ⟨(some 40), .bin .lss .no (.t 37) (.t 39), none⟩])
  (.cond (.t 40)
    (.skip)
    (.exit 0)))
  (.seq (.block 1 (.seq (.seq (.drawn [37, 38, 39, 40] [⟨0, ⟨(some 43), .mov (.t 5), none⟩, []⟩,
      ⟨1, ⟨(some 44), .mov (.t 9), none⟩, []⟩,
      ⟨2, ⟨(some 45), .iaddr 1 none (.t 43) (.t 44), none⟩, []⟩,
      ⟨3, ⟨(some 46), .load none (.t 45), none⟩, []⟩,
      ⟨4, ⟨(some 47), .bin .lss .no (.t 46) (.k (.c (.int .i64 0))), none⟩, []⟩,
      ⟨5, ⟨(some 48), .mov (.t 47), none⟩, []⟩,
      ⟨6, ⟨(some 49), .mov (.t 5), some (48, false)⟩, []⟩,
      ⟨7, ⟨(some 50), .mov (.t 9), some (48, false)⟩, []⟩,
      ⟨8, ⟨(some 51), .iaddr 1 none (.t 49) (.t 50), some (48, false)⟩, []⟩,
      ⟨9, ⟨(some 52), .load none (.t 51), some (48, false)⟩, []⟩,
      ⟨10, ⟨(some 53), .mov (.t 1), some (48, false)⟩, []⟩,
      ⟨11, ⟨(some 54), .mov (.t 9), some (48, false)⟩, []⟩,
      ⟨12, ⟨(some 55), .iaddr 4 none (.t 53) (.t 54), some (48, false)⟩, []⟩,
      ⟨13, ⟨(some 56), .faddr 3 (.t 55), some (48, false)⟩, []⟩,
      ⟨14, ⟨(some 57), .load none (.t 56), some (48, false)⟩, []⟩,
      ⟨15, ⟨(some 58), .bin .gtr .no (.t 52) (.t 57), some (48, false)⟩, []⟩,
      ⟨16, ⟨(some 59), .pick (.t 48) (.k (.c (.bool true))) (.t 58), none⟩, []⟩])
    (.cond (.t 59)
      (.seq (.region [0, 1, 5, 7, 8, 9, 43, 44, 45, 46, 47, 48, 49, 50, 51, 52, 53, 54, 55, 56, 57, 58, 59] [⟨(some 4), .mov (.k (.c (.bool false))), none⟩])
      (.ret))
      (.skip)))
    (.drawn [43, 44, 45, 46, 47, 48, 49, 50, 51, 52, 53, 54, 55, 56, 57, 58, 59] [⟨0, ⟨(some 60), .mov (.t 7), none⟩, []⟩,
      ⟨1, ⟨(some 61), .mov (.t 5), none⟩, []⟩,
      ⟨2, ⟨(some 62), .mov (.t 9), none⟩, []⟩,
      ⟨3, ⟨(some 63), .iaddr 1 none (.t 61) (.t 62), none⟩, []⟩,
      ⟨4, ⟨(some 64), .load none (.t 63), none⟩, []⟩,
      ⟨5, ⟨(some 65), .bin .add .no (.t 60) (.t 64), none⟩, []⟩,
      ⟨6, ⟨(some 66), .mov (.t 8), none⟩, []⟩,
      ⟨7, ⟨(some 67), .mov (.t 66), none⟩, []⟩,
      ⟨8, ⟨(some 68), .mov (.t 5), some (67, true)⟩, []⟩,
      ⟨9, ⟨(some 69), .mov (.t 9), some (67, true)⟩, []⟩,
      ⟨10, ⟨(some 70), .iaddr 1 none (.t 68) (.t 69), some (67, true)⟩, []⟩,
      ⟨11, ⟨(some 71), .load none (.t 70), some (67, true)⟩, []⟩,
      ⟨12, ⟨(some 72), .mov (.t 1), some (67, true)⟩, []⟩,
      ⟨13, ⟨(some 73), .mov (.t 9), some (67, true)⟩, []⟩,
      ⟨14, ⟨(some 74), .iaddr 4 none (.t 72) (.t 73), some (67, true)⟩, []⟩,
      ⟨15, ⟨(some 75), .faddr 3 (.t 74), some (67, true)⟩, []⟩,
      ⟨16, ⟨(some 76), .load none (.t 75), some (67, true)⟩, []⟩,
      ⟨17, ⟨(some 77), .bin .eql .no (.t 71) (.t 76), some (67, true)⟩, []⟩,
      ⟨18, ⟨(some 78), .pick (.t 67) (.t 77) (.k (.c (.bool false))), none⟩, []⟩,
      ⟨19, ⟨(some 7), .mov (.t 65), none⟩, []⟩,
      ⟨20, ⟨(some 8), .mov (.t 78), none⟩, []⟩])))
  (.region [60, 61, 62, 63, 64, 65, 66, 67, 68, 69, 70, 71, 72, 73, 74, 75, 76, 77, 78] [⟨(some 41), .mov (.t 9), none⟩,
    ⟨(some 42), .bin .add .no (.t 41) (.k (.c (.int .i64 1))), none⟩,
    ⟨(some 9), .mov (.t 42), none⟩]))
def lp4_1 : SCode :=
  .seq (.seq (.region [85, 86] [⟨(some 81), .mov (.t 12), none⟩,
    ⟨(some 82), .mov (.t 10), none⟩,
    ⟨(some 83), .len .sl (.t 82), none⟩,
    ⟨(some 84), .bin .lss .no (.t 81) (.t 83), none⟩])
  (.cond (.t 84)
    (.skip)
    (.exit 2)))
  (.seq (.block 3 (.seq (.region [81, 82, 83, 84] [⟨(some 87), .mov (.t 1), none⟩,
      ⟨(some 88), .mov (.t 10), none⟩,
      ⟨(some 89), .mov (.t 12), none⟩,
      ⟨(some 90), .iaddr 1 none (.t 88) (.t 89), none⟩,
      ⟨(some 91), .load none (.t 90), none⟩,
      ⟨(some 92), .iaddr 4 none (.t 87) (.t 91), none⟩,
      ⟨(some 93), .load (some 4) (.t 92), none⟩,
      ⟨(some 13), .lnew [(.c (.int .i64 0)), (.c (.int .i64 0)), (.c (.int .i64 0)), (.c (.int .i64 0))], none⟩,
      ⟨none, .store (some 4) (.t 13) (.t 93), none⟩])
    (.seq (.region [87, 88, 89, 90, 91, 92, 93] [⟨(some 94), .mov (.t 11), none⟩,
      ⟨(some 95), .faddr 2 (.t 13), none⟩,
      ⟨(some 96), .load none (.t 95), none⟩,
      ⟨(some 97), .bin .add .no (.t 94) (.t 96), none⟩,
      ⟨(some 11), .mov (.t 97), none⟩])
    (.seq (.drawn [94, 95, 96, 97] [⟨0, ⟨(some 98), .mov (.t 12), none⟩, []⟩,
      ⟨1, ⟨(some 99), .bin .gtr .no (.t 98) (.k (.c (.int .i64 0))), none⟩, []⟩,
      ⟨2, ⟨(some 100), .mov (.t 99), none⟩, []⟩,
      ⟨3, ⟨(some 101), .mov (.t 1), some (100, true)⟩, []⟩,
      ⟨4, ⟨(some 102), .mov (.t 10), some (100, true)⟩, []⟩,
      ⟨5, ⟨(some 103), .mov (.t 12), some (100, true)⟩, []⟩,
      ⟨6, ⟨(some 104), .bin .sub .no (.t 103) (.k (.c (.int .i64 1))), some (100, true)⟩, []⟩,
      ⟨7, ⟨(some 105), .iaddr 1 none (.t 102) (.t 104), some (100, true)⟩, []⟩,
      ⟨8, ⟨(some 106), .load none (.t 105), some (100, true)⟩, []⟩,
      ⟨9, ⟨(some 107), .iaddr 4 none (.t 101) (.t 106), some (100, true)⟩, []⟩,
      ⟨10, ⟨(some 108), .faddr 1 (.t 107), some (100, true)⟩, []⟩,
      ⟨11, ⟨(some 109), .load none (.t 108), some (100, true)⟩, []⟩,
      ⟨12, ⟨(some 110), .faddr 1 (.t 13), some (100, true)⟩, []⟩,
      ⟨13, ⟨(some 111), .load none (.t 110), some (100, true)⟩, []⟩,
      ⟨14, ⟨(some 112), .bin .gtr .no (.t 109) (.t 111), some (100, true)⟩, []⟩,
      ⟨15, ⟨(some 113), .pick (.t 100) (.t 112) (.k (.c (.bool false))), none⟩, []⟩,
      ⟨16, ⟨(some 114), .mov (.t 113), none⟩, []⟩,
      ⟨17, ⟨(some 115), .mov (.t 11), some (114, false)⟩, []⟩,
      ⟨18, ⟨(some 116), .mov (.t 0), some (114, false)⟩, []⟩,
      ⟨19, ⟨(some 117), .bin .leq .no (.t 115) (.t 116), some (114, false)⟩, []⟩,
      ⟨20, ⟨(some 118), .mov (.t 117), some (114, false)⟩, []⟩,
      ⟨21, ⟨(some 119), .faddr 3 (.t 13), some (118, true)⟩, []⟩,
      ⟨22, ⟨(some 120), .load none (.t 119), some (118, true)⟩, []⟩,
      ⟨23, ⟨(some 121), .faddr 2 (.t 13), some (118, true)⟩, []⟩,
      ⟨24, ⟨(some 122), .load none (.t 121), some (118, true)⟩, []⟩,
      ⟨25, ⟨(some 123), .bin .geq .no (.t 120) (.t 122), some (118, true)⟩, []⟩,
      ⟨26, ⟨(some 124), .pick (.t 118) (.t 123) (.k (.c (.bool false))), some (114, false)⟩, []⟩,
      ⟨27, ⟨(some 125), .mov (.t 124), some (114, false)⟩, []⟩,
      ⟨28, ⟨(some 126), .mov (.t 5), some (125, true)⟩, []⟩,
      ⟨29, ⟨(some 127), .mov (.t 10), some (125, true)⟩, []⟩,
      ⟨30, ⟨(some 128), .mov (.t 12), some (125, true)⟩, []⟩,
      ⟨31, ⟨(some 129), .iaddr 1 none (.t 127) (.t 128), some (125, true)⟩, []⟩,
      ⟨32, ⟨(some 130), .load none (.t 129), some (125, true)⟩, []⟩,
      ⟨33, ⟨(some 131), .iaddr 1 none (.t 126) (.t 130), some (125, true)⟩, []⟩,
      ⟨34, ⟨(some 132), .load none (.t 131), some (125, true)⟩, []⟩,
      ⟨35, ⟨(some 133), .faddr 2 (.t 13), some (125, true)⟩, []⟩,
      ⟨36, ⟨(some 134), .load none (.t 133), some (125, true)⟩, []⟩,
      ⟨37, ⟨(some 135), .bin .lss .no (.t 132) (.t 134), some (125, true)⟩, []⟩,
      ⟨38, ⟨(some 136), .pick (.t 125) (.t 135) (.k (.c (.bool false))), some (114, false)⟩, []⟩,
      ⟨39, ⟨(some 137), .pick (.t 114) (.k (.c (.bool true))) (.t 136), none⟩, []⟩])
    (.cond (.t 137)
      (.seq (.region [0, 1, 5, 7, 8, 10, 11, 12, 13, 98, 99, 100, 101, 102, 103, 104, 105, 106, 107, 108, 109, 110, 111, 112, 113, 114, 115, 116, 117, 118, 119, 120, 121, 122, 123, 124, 125, 126, 127, 128, 129, 130, 131, 132, 133, 134, 135, 136, 137] [⟨(some 4), .mov (.k (.c (.bool false))), none⟩])
      (.ret))
      (.skip))))))
  (.region [13, 98, 99, 100, 101, 102, 103, 104, 105, 106, 107, 108, 109, 110, 111, 112, 113, 114, 115, 116, 117, 118, 119, 120, 121, 122, 123, 124, 125, 126, 127, 128, 129, 130, 131, 132, 133, 134, 135, 136, 137] [⟨(some 85), .mov (.t 12), none⟩,
    ⟨(some 86), .bin .add .no (.t 85) (.k (.c (.int .i64 1))), none⟩,
    ⟨(some 12), .mov (.t 86), none⟩]))
def code4 : SCode :=
  .seq (.region [] [⟨(some 4), .mov (.k (.c (.bool false))), none⟩])
  (.seq (.seq (.region [4] [⟨(some 14), .mov (.t 1), none⟩,
    ⟨(some 15), .len .sl (.t 14), none⟩,
    ⟨(some 16), .bin .gtr .no (.t 15) (.k (.c (.int .i64 60))), none⟩])
  (.cond (.t 16)
    (.seq (.region [0, 1, 14, 15, 16] [⟨(some 17), .call 10 [], none⟩,
      ⟨(some 4), .mov (.t 17), none⟩])
    (.ret))
    (.skip)))
  (.seq (.region [14, 15, 16] [⟨(some 19), .mov (.t 0), none⟩,
    ⟨(some 20), .mov (.t 1), none⟩,
    ⟨(some 21), .call 13 [(.t 19), (.t 20)], none⟩,
    ⟨(some 18), .mov (.t 21), none⟩,
    ⟨(some 22), .ext (.t 18) 0, none⟩,
    ⟨(some 23), .ext (.t 18) 1, none⟩,
    ⟨(some 5), .mov (.t 22), none⟩,
    ⟨(some 6), .mov (.t 23), none⟩])
  (.seq (.seq (.region [18, 19, 20, 21, 22, 23] [⟨(some 24), .mov (.t 6), none⟩,
    ⟨(some 25), .bin .neq .no (.t 24) (.k (.c (.int .i64 0))), none⟩])
  (.cond (.t 25)
    (.seq (.region [0, 1, 6, 24, 25] [⟨(some 26), .call 10 [], none⟩,
      ⟨(some 27), .mov (.t 26), none⟩,
      ⟨(some 28), .mov (.t 5), some (27, true)⟩,
      ⟨(some 29), .len .sl (.t 28), some (27, true)⟩,
      ⟨(some 30), .bin .eql .no (.t 29) (.k (.c (.int .i64 0))), some (27, true)⟩,
      ⟨(some 31), .pick (.t 27) (.t 30) (.k (.c (.bool false))), none⟩,
      ⟨(some 4), .mov (.t 31), none⟩])
    (.ret))
    (.skip)))
  (.seq (.seq (.region [6, 24, 25] [⟨(some 32), .mov (.t 5), none⟩,
    ⟨(some 33), .len .sl (.t 32), none⟩,
    ⟨(some 34), .mov (.t 1), none⟩,
    ⟨(some 35), .len .sl (.t 34), none⟩,
    ⟨(some 36), .bin .neq .no (.t 33) (.t 35), none⟩])
  (.cond (.t 36)
    (.seq (.region [0, 1, 5, 32, 33, 34, 35, 36] [⟨(some 4), .mov (.k (.c (.bool false))), none⟩])
    (.ret))
    (.skip)))
  (.seq (.region [32, 33, 34, 35, 36] [⟨(some 7), .mov (.k (.c (.int .i64 0))), none⟩,
    ⟨(some 8), .mov (.k (.c (.bool true))), none⟩])
  (.seq (.seq (.region [] [⟨(some 9), .mov (.k (.c (.int .i64 0))), none⟩])
  (.block 0 (.loop lp4_0)))
  (.seq (.region [9, 37, 38, 39, 40] [⟨(some 79), .mov (.t 1), none⟩,
    ⟨(some 80), .call 16 [(.t 79)], none⟩,
    ⟨(some 10), .mov (.t 80), none⟩])
  (.seq (.region [79, 80] [⟨(some 11), .mov (.k (.c (.int .i64 0))), none⟩])
  (.seq (.seq (.region [] [⟨(some 12), .mov (.k (.c (.int .i64 0))), none⟩])
  (.block 2 (.loop lp4_1)))
  (.seq (.region [1, 5, 10, 11, 12, 81, 82, 83, 84] [⟨(some 138), .call 10 [], none⟩,
    ⟨(some 139), .mov (.t 138), none⟩,
    ⟨(some 140), .mov (.t 7), some (139, true)⟩,
    ⟨(some 141), .mov (.t 0), some (139, true)⟩,
    ⟨(some 142), .bin .leq .no (.t 140) (.t 141), some (139, true)⟩,
    ⟨(some 143), .pick (.t 139) (.t 142) (.k (.c (.bool false))), none⟩,
    ⟨(some 144), .mov (.t 143), none⟩,
    ⟨(some 145), .mov (.t 8), some (144, true)⟩,
    ⟨(some 146), .mov (.t 145), some (144, true)⟩,
    ⟨(some 147), .mov (.t 7), some (146, false)⟩,
    ⟨(some 148), .mov (.t 0), some (146, false)⟩,
    ⟨(some 149), .bin .eql .no (.t 147) (.t 148), some (146, false)⟩,
    ⟨(some 150), .pick (.t 146) (.k (.c (.bool true))) (.t 149), some (144, true)⟩,
    ⟨(some 151), .pick (.t 144) (.t 150) (.k (.c (.bool false))), none⟩,
    ⟨(some 4), .mov (.t 151), none⟩])
  (.ret)))))))))))
def fun4 : SFun := ⟨code4, 152, [.tmp 4]⟩

/- 5 bowline/bowlinelaw29.SplitRanks params #[3, 3, 22] results #[4] -/
def ann5 : Ann := ⟨[], [(1, [6]), (2, [0, 1, 2, 15, 16, 17]), (3, [15, 16, 17]), (5, [23, 24]), (7, [19, 20, 21, 22]), (6, [25, 26, 27, 28, 29, 30, 31, 32, 33, 34, 35, 36, 37, 38, 39, 40, 41, 42, 43]), (8, [2, 8, 19, 20, 21, 22]), (9, [44, 45, 46, 47, 48, 49]), (10, [0, 1, 7, 9, 10, 50, 51]), (11, [10, 50, 51]), (12, [53, 54, 55, 56, 57, 58]), (13, [0, 1, 7, 9, 11, 12, 59, 60, 61, 62, 63, 64, 65, 66, 67, 68, 69, 70, 71, 72, 73, 74]), (14, [59, 60, 61, 62, 63, 64, 65, 66, 67, 68, 69, 70, 71, 72, 73, 74]), (15, [79, 80]), (17, [75, 76, 77, 78]), (18, [0, 1, 7, 9, 11, 12, 13, 81, 82, 83, 84, 85, 86, 87, 88, 89, 90, 91, 92, 93, 94, 95, 96, 97, 98, 99, 100, 101, 102, 103, 104, 105, 106, 107, 108, 109, 110, 111, 112, 113]), (19, [81, 82, 83, 84, 85, 86, 87, 88, 89, 90, 91, 92, 93, 94, 95, 96, 97, 98, 99, 100, 101, 102, 103, 104, 105, 106, 107, 108, 109, 110, 111, 112, 113]), (20, [118, 119]), (22, [114, 115, 116, 117]), (23, [0, 1, 7, 9, 11, 12, 13, 14, 120, 121, 122, 123, 124, 125, 126, 127, 128, 129, 130, 131, 132, 133, 134, 135, 136, 137, 138, 139, 140, 141, 142, 143, 144, 145, 146, 147, 148, 149]), (21, [120, 121, 122, 123, 124, 125, 126, 127, 128, 129, 130, 131, 132, 133, 134, 135, 136, 137, 138, 139, 140, 141, 142, 143, 144, 145, 146, 147, 148, 149]), (16, [14, 114, 115, 116, 117]), (24, [0, 1, 7, 9, 11, 12, 13, 75, 76, 77, 78])]⟩
def lp5_0 : SCode :=
  .seq (.seq (.region [23, 24] [⟨(some 19), .mov (.t 8), none⟩,
    ⟨(some 20), .mov (.t 2), none⟩,
    ⟨(some 21), .len .sl (.t 20), none⟩,
    ⟨(some 22), .bin .lss .no (.t 19) (.t 21), none⟩])
  (.cond (.t 22)
    (.skip)
    (.exit 0)))
  (.seq (.block 1 (.drawn [19, 20, 21, 22] [⟨0, ⟨(some 25), .mov (.t 7), none⟩, []⟩,
      ⟨1, ⟨(some 26), .mov (.t 2), none⟩, []⟩,
      ⟨2, ⟨(some 27), .mov (.t 8), none⟩, []⟩,
      ⟨3, ⟨(some 28), .iaddr 4 none (.t 26) (.t 27), none⟩, []⟩,
      ⟨4, ⟨(some 29), .faddr 0 (.t 28), none⟩, []⟩,
      ⟨5, ⟨(some 30), .load none (.t 29), none⟩, []⟩,
      ⟨6, ⟨(some 31), .mov (.t 2), none⟩, []⟩,
      ⟨7, ⟨(some 32), .mov (.t 8), none⟩, []⟩,
      ⟨8, ⟨(some 33), .iaddr 4 none (.t 31) (.t 32), none⟩, []⟩,
      ⟨9, ⟨(some 34), .faddr 1 (.t 33), none⟩, []⟩,
      ⟨10, ⟨(some 35), .load none (.t 34), none⟩, []⟩,
      ⟨11, ⟨(some 36), .mov (.t 2), none⟩, []⟩,
      ⟨12, ⟨(some 37), .mov (.t 8), none⟩, []⟩,
      ⟨13, ⟨(some 38), .iaddr 4 none (.t 36) (.t 37), none⟩, []⟩,
      ⟨14, ⟨(some 39), .faddr 3 (.t 38), none⟩, []⟩,
      ⟨15, ⟨(some 40), .load none (.t 39), none⟩, []⟩,
      ⟨16, ⟨(some 41), .build [(.c (.int .i64 0)), (.c (.int .i64 0)), (.c (.int .i64 0)), (.c (.int .i64 0))] [(0, 1, (.t 30)), (1, 1, (.t 35)), (3, 1, (.t 40))], none⟩, []⟩,
      ⟨17, ⟨(some 42), .bslice 1 4 [(.c (.int .i64 0)), (.c (.int .i64 0)), (.c (.int .i64 0)), (.c (.int .i64 0))] [(0, 4, (.t 41))], none⟩, []⟩,
      ⟨18, ⟨(some 43), .append 4 32 (.t 25) (.t 42), none⟩, []⟩,
      ⟨19, ⟨(some 7), .mov (.t 43), none⟩, []⟩]))
  (.region [25, 26, 27, 28, 29, 30, 31, 32, 33, 34, 35, 36, 37, 38, 39, 40, 41, 42, 43] [⟨(some 23), .mov (.t 8), none⟩,
    ⟨(some 24), .bin .add .no (.t 23) (.k (.c (.int .i64 1))), none⟩,
    ⟨(some 8), .mov (.t 24), none⟩]))
def lp5_1 : SCode :=
  .seq (.seq (.region [118, 119] [⟨(some 114), .mov (.t 14), none⟩,
    ⟨(some 115), .mov (.t 7), none⟩,
    ⟨(some 116), .len .sl (.t 115), none⟩,
    ⟨(some 117), .bin .lss .no (.t 114) (.t 116), none⟩])
  (.cond (.t 117)
    (.skip)
    (.exit 4)))
  (.seq (.block 5 (.seq (.drawn [114, 115, 116, 117] [⟨0, ⟨(some 120), .mov (.t 7), none⟩, []⟩,
      ⟨1, ⟨(some 121), .mov (.t 14), none⟩, []⟩,
      ⟨2, ⟨(some 122), .iaddr 4 none (.t 120) (.t 121), none⟩, []⟩,
      ⟨3, ⟨(some 123), .faddr 1 (.t 122), none⟩, []⟩,
      ⟨4, ⟨(some 124), .load none (.t 123), none⟩, []⟩,
      ⟨5, ⟨(some 125), .mov (.t 7), none⟩, []⟩,
      ⟨6, ⟨(some 126), .mov (.t 13), none⟩, []⟩,
      ⟨7, ⟨(some 127), .iaddr 4 none (.t 125) (.t 126), none⟩, []⟩,
      ⟨8, ⟨(some 128), .faddr 1 (.t 127), none⟩, []⟩,
      ⟨9, ⟨(some 129), .load none (.t 128), none⟩, []⟩,
      ⟨10, ⟨(some 130), .bin .lss .no (.t 124) (.t 129), none⟩, []⟩,
      ⟨11, ⟨(some 131), .mov (.t 130), none⟩, []⟩,
      ⟨12, ⟨(some 132), .mov (.t 9), some (131, true)⟩, []⟩,
      ⟨13, ⟨(some 133), .mov (.t 13), some (131, true)⟩, []⟩,
      ⟨14, ⟨(some 134), .iaddr 1 none (.t 132) (.t 133), some (131, true)⟩, []⟩,
      ⟨15, ⟨(some 135), .load none (.t 134), some (131, true)⟩, []⟩,
      ⟨16, ⟨(some 136), .bin .gtr .no (.t 135) (.k (.c (.int .i64 0))), some (131, true)⟩, []⟩,
      ⟨17, ⟨(some 137), .pick (.t 131) (.t 136) (.k (.c (.bool false))), none⟩, []⟩,
      ⟨18, ⟨(some 138), .mov (.t 137), none⟩, []⟩,
      ⟨19, ⟨(some 139), .mov (.t 9), some (138, true)⟩, []⟩,
      ⟨20, ⟨(some 140), .mov (.t 14), some (138, true)⟩, []⟩,
      ⟨21, ⟨(some 141), .iaddr 1 none (.t 139) (.t 140), some (138, true)⟩, []⟩,
      ⟨22, ⟨(some 142), .load none (.t 141), some (138, true)⟩, []⟩,
      ⟨23, ⟨(some 143), .mov (.t 7), some (138, true)⟩, []⟩,
      ⟨24, ⟨(some 144), .mov (.t 14), some (138, true)⟩, []⟩,
      ⟨25, ⟨(some 145), .iaddr 4 none (.t 143) (.t 144), some (138, true)⟩, []⟩,
      ⟨26, ⟨(some 146), .faddr 3 (.t 145), some (138, true)⟩, []⟩,
      ⟨27, ⟨(some 147), .load none (.t 146), some (138, true)⟩, []⟩,
      ⟨28, ⟨(some 148), .bin .lss .no (.t 142) (.t 147), some (138, true)⟩, []⟩,
      ⟨29, ⟨(some 149), .pick (.t 138) (.t 148) (.k (.c (.bool false))), none⟩, []⟩])
    (.cond (.t 149)
      (.seq (.region [0, 1, 7, 9, 11, 12, 13, 14, 120, 121, 122, 123, 124, 125, 126, 127, 128, 129, 130, 131, 132, 133, 134, 135, 136, 137, 138, 139, 140, 141, 142, 143, 144, 145, 146, 147, 148, 149] [⟨(some 6), .mov (.k (.c (.bool false))), none⟩])
      (.ret))
      (.skip))))
  (.region [120, 121, 122, 123, 124, 125, 126, 127, 128, 129, 130, 131, 132, 133, 134, 135, 136, 137, 138, 139, 140, 141, 142, 143, 144, 145, 146, 147, 148, 149] [⟨(some 118), .mov (.t 14), none⟩,
    ⟨(some 119), .bin .add .no (.t 118) (.k (.c (.int .i64 1))), none⟩,
    ⟨(some 14), .mov (.t 119), none⟩]))
def lp5_2 : SCode :=
  .seq (.seq (.region [79, 80] [⟨(some 75), .mov (.t 13), none⟩,
    ⟨(some 76), .mov (.t 7), none⟩,
    ⟨(some 77), .len .sl (.t 76), none⟩,
    ⟨(some 78), .bin .lss .no (.t 75) (.t 77), none⟩])
  (.cond (.t 78)
    (.skip)
    (.exit 2)))
  (.seq (.block 3 (.seq (.seq (.drawn [75, 76, 77, 78] [⟨0, ⟨(some 81), .mov (.t 7), none⟩, []⟩,
      ⟨1, ⟨(some 82), .mov (.t 13), none⟩, []⟩,
      ⟨2, ⟨(some 83), .iaddr 4 none (.t 81) (.t 82), none⟩, []⟩,
      ⟨3, ⟨(some 84), .faddr 3 (.t 83), none⟩, []⟩,
      ⟨4, ⟨(some 85), .load none (.t 84), none⟩, []⟩,
      ⟨5, ⟨(some 86), .bin .eql .no (.t 85) (.k (.c (.int .i64 0))), none⟩, []⟩,
      ⟨6, ⟨(some 87), .mov (.t 86), none⟩, []⟩,
      ⟨7, ⟨(some 88), .mov (.t 9), some (87, true)⟩, []⟩,
      ⟨8, ⟨(some 89), .mov (.t 13), some (87, true)⟩, []⟩,
      ⟨9, ⟨(some 90), .iaddr 1 none (.t 88) (.t 89), some (87, true)⟩, []⟩,
      ⟨10, ⟨(some 91), .load none (.t 90), some (87, true)⟩, []⟩,
      ⟨11, ⟨(some 92), .bin .neq .no (.t 91) (.k (.c (.int .i64 0))), some (87, true)⟩, []⟩,
      ⟨12, ⟨(some 93), .pick (.t 87) (.t 92) (.k (.c (.bool false))), none⟩, []⟩,
      ⟨13, ⟨(some 94), .mov (.t 93), none⟩, []⟩,
      ⟨14, ⟨(some 95), .mov (.t 12), some (94, false)⟩, []⟩,
      ⟨15, ⟨(some 96), .bin .eql .no (.t 95) (.k (.c (.int .i64 0))), some (94, false)⟩, []⟩,
      ⟨16, ⟨(some 97), .mov (.t 96), some (94, false)⟩, []⟩,
      ⟨17, ⟨(some 98), .mov (.t 1), some (97, true)⟩, []⟩,
      ⟨18, ⟨(some 99), .mov (.t 0), some (97, true)⟩, []⟩,
      ⟨19, ⟨(some 100), .bin .geq .no (.t 98) (.t 99), some (97, true)⟩, []⟩,
      ⟨20, ⟨(some 101), .pick (.t 97) (.t 100) (.k (.c (.bool false))), some (94, false)⟩, []⟩,
      ⟨21, ⟨(some 102), .mov (.t 101), some (94, false)⟩, []⟩,
      ⟨22, ⟨(some 103), .mov (.t 11), some (102, true)⟩, []⟩,
      ⟨23, ⟨(some 104), .mov (.t 13), some (102, true)⟩, []⟩,
      ⟨24, ⟨(some 105), .iaddr 1 none (.t 103) (.t 104), some (102, true)⟩, []⟩,
      ⟨25, ⟨(some 106), .load none (.t 105), some (102, true)⟩, []⟩,
      ⟨26, ⟨(some 107), .mov (.t 9), some (102, true)⟩, []⟩,
      ⟨27, ⟨(some 108), .mov (.t 13), some (102, true)⟩, []⟩,
      ⟨28, ⟨(some 109), .iaddr 1 none (.t 107) (.t 108), some (102, true)⟩, []⟩,
      ⟨29, ⟨(some 110), .load none (.t 109), some (102, true)⟩, []⟩,
      ⟨30, ⟨(some 111), .bin .lss .no (.t 106) (.t 110), some (102, true)⟩, []⟩,
      ⟨31, ⟨(some 112), .pick (.t 102) (.t 111) (.k (.c (.bool false))), some (94, false)⟩, []⟩,
      ⟨32, ⟨(some 113), .pick (.t 94) (.k (.c (.bool true))) (.t 112), none⟩, []⟩])
    (.cond (.t 113)
      (.seq (.region [0, 1, 7, 9, 11, 12, 13, 81, 82, 83, 84, 85, 86, 87, 88, 89, 90, 91, 92, 93, 94, 95, 96, 97, 98, 99, 100, 101, 102, 103, 104, 105, 106, 107, 108, 109, 110, 111, 112, 113] [⟨(some 6), .mov (.k (.c (.bool false))), none⟩])
      (.ret))
      (.skip)))
    (.seq (.region [81, 82, 83, 84, 85, 86, 87, 88, 89, 90, 91, 92, 93, 94, 95, 96, 97, 98, 99, 100, 101, 102, 103, 104, 105, 106, 107, 108, 109, 110, 111, 112, 113] [⟨(some 14), .mov (.k (.c (.int .i64 0))), none⟩])
    (.block 4 (.loop lp5_1)))))
  (.region [14, 114, 115, 116, 117] [⟨(some 79), .mov (.t 13), none⟩,
    ⟨(some 80), .bin .add .no (.t 79) (.k (.c (.int .i64 1))), none⟩,
    ⟨(some 13), .mov (.t 80), none⟩]))
def code5 : SCode :=
  .seq (.region [] [⟨(some 6), .mov (.k (.c (.bool false))), none⟩])
  (.seq (.seq (.region [6] [⟨(some 15), .mov (.t 2), none⟩,
    ⟨(some 16), .len .sl (.t 15), none⟩,
    ⟨(some 17), .bin .gtr .no (.t 16) (.k (.c (.int .i64 32))), none⟩])
  (.cond (.t 17)
    (.seq (.region [0, 1, 2, 15, 16, 17] [⟨(some 18), .call 10 [], none⟩,
      ⟨(some 6), .mov (.t 18), none⟩])
    (.ret))
    (.skip)))
  (.seq (.region [15, 16, 17] [⟨(some 7), .mov (.k (.c (.slice none 0 0))), none⟩])
  (.seq (.seq (.region [] [⟨(some 8), .mov (.k (.c (.int .i64 0))), none⟩])
  (.block 0 (.loop lp5_0)))
  (.seq (.region [2, 8, 19, 20, 21, 22] [⟨(some 45), .mov (.t 0), none⟩,
    ⟨(some 46), .mov (.t 7), none⟩,
    ⟨(some 47), .call 13 [(.t 45), (.t 46)], none⟩,
    ⟨(some 44), .mov (.t 47), none⟩,
    ⟨(some 48), .ext (.t 44) 0, none⟩,
    ⟨(some 49), .ext (.t 44) 1, none⟩,
    ⟨(some 9), .mov (.t 48), none⟩,
    ⟨(some 10), .mov (.t 49), none⟩])
  (.seq (.seq (.region [44, 45, 46, 47, 48, 49] [⟨(some 50), .mov (.t 10), none⟩,
    ⟨(some 51), .bin .neq .no (.t 50) (.k (.c (.int .i64 0))), none⟩])
  (.cond (.t 51)
    (.seq (.region [0, 1, 7, 9, 10, 50, 51] [⟨(some 52), .call 10 [], none⟩,
      ⟨(some 6), .mov (.t 52), none⟩])
    (.ret))
    (.skip)))
  (.seq (.region [10, 50, 51] [⟨(some 54), .mov (.t 1), none⟩,
    ⟨(some 55), .mov (.t 7), none⟩,
    ⟨(some 56), .call 13 [(.t 54), (.t 55)], none⟩,
    ⟨(some 53), .mov (.t 56), none⟩,
    ⟨(some 57), .ext (.t 53) 0, none⟩,
    ⟨(some 58), .ext (.t 53) 1, none⟩,
    ⟨(some 11), .mov (.t 57), none⟩,
    ⟨(some 12), .mov (.t 58), none⟩])
  (.seq (.seq (.region [53, 54, 55, 56, 57, 58] [⟨(some 59), .mov (.t 9), none⟩,
    ⟨(some 60), .len .sl (.t 59), none⟩,
    ⟨(some 61), .mov (.t 7), none⟩,
    ⟨(some 62), .len .sl (.t 61), none⟩,
    ⟨(some 63), .bin .neq .no (.t 60) (.t 62), none⟩,
    ⟨(some 64), .mov (.t 63), none⟩,
    ⟨(some 65), .mov (.t 12), some (64, false)⟩,
    ⟨(some 66), .bin .eql .no (.t 65) (.k (.c (.int .i64 0))), some (64, false)⟩,
    ⟨(some 67), .mov (.t 66), some (64, false)⟩,
    ⟨(some 68), .mov (.t 11), some (67, true)⟩,
    ⟨(some 69), .len .sl (.t 68), some (67, true)⟩,
    ⟨(some 70), .mov (.t 7), some (67, true)⟩,
    ⟨(some 71), .len .sl (.t 70), some (67, true)⟩,
    ⟨(some 72), .bin .neq .no (.t 69) (.t 71), some (67, true)⟩,
    ⟨(some 73), .pick (.t 67) (.t 72) (.k (.c (.bool false))), some (64, false)⟩,
    ⟨(some 74), .pick (.t 64) (.k (.c (.bool true))) (.t 73), none⟩])
  (.cond (.t 74)
    (.seq (.region [0, 1, 7, 9, 11, 12, 59, 60, 61, 62, 63, 64, 65, 66, 67, 68, 69, 70, 71, 72, 73, 74] [⟨(some 6), .mov (.k (.c (.bool false))), none⟩])
    (.ret))
    (.skip)))
  (.seq (.seq (.region [59, 60, 61, 62, 63, 64, 65, 66, 67, 68, 69, 70, 71, 72, 73, 74] [⟨(some 13), .mov (.k (.c (.int .i64 0))), none⟩])
  (.block 2 (.loop lp5_2)))
  (.seq (.region [0, 1, 7, 9, 11, 12, 13, 75, 76, 77, 78] [⟨(some 150), .call 10 [], none⟩,
    ⟨(some 6), .mov (.t 150), none⟩])
  (.ret))))))))))
def fun5 : SFun := ⟨code5, 151, [.tmp 6]⟩

/- 10 bowline/bowlinelaw29.alive params #[] results #[4] -/
def ann10 : Ann := ⟨[], [(1, [0]), (2, [7, 8, 9, 10, 11, 12, 13]), (3, [3, 14, 15, 16, 17, 18, 19, 20]), (4, [5, 21, 22, 23, 24, 25, 26])]⟩
def code10 : SCode :=
  .seq (.region [] [⟨(some 0), .mov (.k (.c (.bool false))), none⟩])
  (.seq (.region [0] [⟨(some 8), .build [(.c (.int .i64 0)), (.c (.int .i64 0)), (.c (.int .i64 0)), (.c (.int .i64 0))] [(0, 1, (.k (.c (.int .i64 1)))), (1, 1, (.k (.c (.int .i64 1)))), (2, 1, (.k (.c (.int .i64 4)))), (3, 1, (.k (.c (.int .i64 9))))], none⟩,
    ⟨(some 9), .build [(.c (.int .i64 0)), (.c (.int .i64 0)), (.c (.int .i64 0)), (.c (.int .i64 0))] [(0, 1, (.k (.c (.int .i64 2)))), (1, 1, (.k (.c (.int .i64 2)))), (2, 1, (.k (.c (.int .i64 4)))), (3, 1, (.k (.c (.int .i64 9))))], none⟩,
    ⟨(some 10), .bslice 2 4 [(.c (.int .i64 0)), (.c (.int .i64 0)), (.c (.int .i64 0)), (.c (.int .i64 0)), (.c (.int .i64 0)), (.c (.int .i64 0)), (.c (.int .i64 0)), (.c (.int .i64 0))] [(0, 4, (.t 8)), (4, 4, (.t 9))], none⟩,
    ⟨(some 11), .call 13 [(.k (.c (.int .i64 10))), (.t 10)], none⟩,
    ⟨(some 7), .mov (.t 11), none⟩,
    ⟨(some 12), .ext (.t 7) 0, none⟩,
    ⟨(some 13), .ext (.t 7) 1, none⟩,
    ⟨(some 1), .mov (.t 12), none⟩,
    ⟨(some 2), .mov (.t 13), none⟩])
  (.seq (.region [7, 8, 9, 10, 11, 12, 13] [⟨(some 15), .build [(.c (.int .i64 0)), (.c (.int .i64 0)), (.c (.int .i64 0)), (.c (.int .i64 0))] [(0, 1, (.k (.c (.int .i64 1)))), (1, 1, (.k (.c (.int .i64 1)))), (2, 1, (.k (.c (.int .i64 4)))), (3, 1, (.k (.c (.int .i64 9))))], none⟩,
    ⟨(some 16), .build [(.c (.int .i64 0)), (.c (.int .i64 0)), (.c (.int .i64 0)), (.c (.int .i64 0))] [(0, 1, (.k (.c (.int .i64 1)))), (1, 1, (.k (.c (.int .i64 2)))), (2, 1, (.k (.c (.int .i64 4)))), (3, 1, (.k (.c (.int .i64 9))))], none⟩,
    ⟨(some 17), .bslice 2 4 [(.c (.int .i64 0)), (.c (.int .i64 0)), (.c (.int .i64 0)), (.c (.int .i64 0)), (.c (.int .i64 0)), (.c (.int .i64 0)), (.c (.int .i64 0)), (.c (.int .i64 0))] [(0, 4, (.t 15)), (4, 4, (.t 16))], none⟩,
    ⟨(some 18), .call 13 [(.k (.c (.int .i64 10))), (.t 17)], none⟩,
    ⟨(some 14), .mov (.t 18), none⟩,
    ⟨(some 19), .ext (.t 14) 0, none⟩,
    ⟨(some 20), .ext (.t 14) 1, none⟩,
    ⟨(some 3), .mov (.t 19), none⟩,
    ⟨(some 4), .mov (.t 20), none⟩])
  (.seq (.region [3, 14, 15, 16, 17, 18, 19, 20] [⟨(some 22), .build [(.c (.int .i64 0)), (.c (.int .i64 0)), (.c (.int .i64 0)), (.c (.int .i64 0))] [(0, 1, (.k (.c (.int .i64 1)))), (2, 1, (.k (.c (.int .i64 4)))), (3, 1, (.k (.c (.int .i64 9))))], none⟩,
    ⟨(some 23), .bslice 1 4 [(.c (.int .i64 0)), (.c (.int .i64 0)), (.c (.int .i64 0)), (.c (.int .i64 0))] [(0, 4, (.t 22))], none⟩,
    ⟨(some 24), .call 13 [(.k (.c (.int .i64 10))), (.t 23)], none⟩,
    ⟨(some 21), .mov (.t 24), none⟩,
    ⟨(some 25), .ext (.t 21) 0, none⟩,
    ⟨(some 26), .ext (.t 21) 1, none⟩,
    ⟨(some 5), .mov (.t 25), none⟩,
    ⟨(some 6), .mov (.t 26), none⟩])
  (.seq (.region [5, 21, 22, 23, 24, 25, 26] [⟨(some 27), .mov (.t 2), none⟩,
    ⟨(some 28), .bin .eql .no (.t 27) (.k (.c (.int .i64 0))), none⟩,
    ⟨(some 29), .mov (.t 28), none⟩,
    ⟨(some 30), .mov (.t 1), some (29, true)⟩,
    ⟨(some 31), .len .sl (.t 30), some (29, true)⟩,
    ⟨(some 32), .bin .eql .no (.t 31) (.k (.c (.int .i64 2))), some (29, true)⟩,
    ⟨(some 33), .pick (.t 29) (.t 32) (.k (.c (.bool false))), none⟩,
    ⟨(some 34), .mov (.t 33), none⟩,
    ⟨(some 35), .mov (.t 1), some (34, true)⟩,
    ⟨(some 36), .iaddr 1 none (.t 35) (.k (.c (.int .i64 0))), some (34, true)⟩,
    ⟨(some 37), .load none (.t 36), some (34, true)⟩,
    ⟨(some 38), .bin .eql .no (.t 37) (.k (.c (.int .i64 6))), some (34, true)⟩,
    ⟨(some 39), .pick (.t 34) (.t 38) (.k (.c (.bool false))), none⟩,
    ⟨(some 40), .mov (.t 39), none⟩,
    ⟨(some 41), .mov (.t 1), some (40, true)⟩,
    ⟨(some 42), .iaddr 1 none (.t 41) (.k (.c (.int .i64 1))), some (40, true)⟩,
    ⟨(some 43), .load none (.t 42), some (40, true)⟩,
    ⟨(some 44), .bin .eql .no (.t 43) (.k (.c (.int .i64 4))), some (40, true)⟩,
    ⟨(some 45), .pick (.t 40) (.t 44) (.k (.c (.bool false))), none⟩,
    ⟨(some 46), .mov (.t 45), none⟩,
    ⟨(some 47), .mov (.t 4), some (46, true)⟩,
    ⟨(some 48), .bin .eql .no (.t 47) (.k (.c (.int .i64 12))), some (46, true)⟩,
    ⟨(some 49), .pick (.t 46) (.t 48) (.k (.c (.bool false))), none⟩,
    ⟨(some 50), .mov (.t 49), none⟩,
    ⟨(some 51), .mov (.t 6), some (50, true)⟩,
    ⟨(some 52), .bin .eql .no (.t 51) (.k (.c (.int .i64 3))), some (50, true)⟩,
    ⟨(some 53), .pick (.t 50) (.t 52) (.k (.c (.bool false))), none⟩,
    ⟨(some 0), .mov (.t 53), none⟩])
  (.ret)))))
def fun10 : SFun := ⟨code10, 54, [.tmp 0]⟩

/- 11 bowline/split.Right params #[26] results #[4] -/
def ann11 : Ann := ⟨[1], [(1, [0, 2])]⟩
def code11 : SCode :=
  .seq (.region [] [⟨(some 1), .lbox 4 (.t 0), none⟩,
    ⟨(some 2), .mov (.k (.c (.bool false))), none⟩])
  (.seq (.region [0, 2] [⟨(some 3), .faddr 1 (.t 1), none⟩,
    ⟨(some 4), .load none (.t 3), none⟩,
    ⟨(some 5), .bin .geq .no (.t 4) (.k (.c (.int .i64 1))), none⟩,
    ⟨(some 6), .mov (.t 5), none⟩,
    ⟨(some 7), .faddr 1 (.t 1), some (6, true)⟩,
    ⟨(some 8), .load none (.t 7), some (6, true)⟩,
    ⟨(some 9), .bin .leq .no (.t 8) (.k (.c (.int .i64 16))), some (6, true)⟩,
    ⟨(some 10), .pick (.t 6) (.t 9) (.k (.c (.bool false))), none⟩,
    ⟨(some 11), .mov (.t 10), none⟩,
    ⟨(some 12), .faddr 2 (.t 1), some (11, true)⟩,
    ⟨(some 13), .load none (.t 12), some (11, true)⟩,
    ⟨(some 14), .bin .geq .no (.t 13) (.k (.c (.int .i64 0))), some (11, true)⟩,
    ⟨(some 15), .pick (.t 11) (.t 14) (.k (.c (.bool false))), none⟩,
    ⟨(some 16), .mov (.t 15), none⟩,
    ⟨(some 17), .faddr 2 (.t 1), some (16, true)⟩,
    ⟨(some 18), .load none (.t 17), some (16, true)⟩,
    ⟨(some 19), .bin .leq .no (.t 18) (.k (.c (.int .i64 4096))), some (16, true)⟩,
    ⟨(some 20), .pick (.t 16) (.t 19) (.k (.c (.bool false))), none⟩,
    ⟨(some 21), .mov (.t 20), none⟩,
    ⟨(some 22), .faddr 3 (.t 1), some (21, true)⟩,
    ⟨(some 23), .load none (.t 22), some (21, true)⟩,
    ⟨(some 24), .bin .geq .no (.t 23) (.k (.c (.int .i64 0))), some (21, true)⟩,
    ⟨(some 25), .pick (.t 21) (.t 24) (.k (.c (.bool false))), none⟩,
    ⟨(some 26), .mov (.t 25), none⟩,
    ⟨(some 27), .faddr 3 (.t 1), some (26, true)⟩,
    ⟨(some 28), .load none (.t 27), some (26, true)⟩,
    ⟨(some 29), .bin .leq .no (.t 28) (.k (.c (.int .i64 20000))), some (26, true)⟩,
    ⟨(some 30), .pick (.t 26) (.t 29) (.k (.c (.bool false))), none⟩,
    ⟨(some 2), .mov (.t 30), none⟩])
  (.ret))
def fun11 : SFun := ⟨code11, 31, [.tmp 2]⟩

/- 12 bowline/bowlineref29.Right params #[27] results #[4] -/
def ann12 : Ann := ⟨[1], [(1, [0, 2])]⟩
def code12 : SCode :=
  .seq (.region [] [⟨(some 1), .lbox 4 (.t 0), none⟩,
    ⟨(some 2), .mov (.k (.c (.bool false))), none⟩])
  (.seq (.region [0, 2] [⟨(some 3), .faddr 1 (.t 1), none⟩,
    ⟨(some 4), .load none (.t 3), none⟩,
    ⟨(some 5), .bin .gtr .no (.t 4) (.k (.c (.int .i64 0))), none⟩,
    ⟨(some 6), .mov (.t 5), none⟩,
    ⟨(some 7), .faddr 1 (.t 1), some (6, true)⟩,
    ⟨(some 8), .load none (.t 7), some (6, true)⟩,
    ⟨(some 9), .bin .lss .no (.t 8) (.k (.c (.int .i64 17))), some (6, true)⟩,
    ⟨(some 10), .pick (.t 6) (.t 9) (.k (.c (.bool false))), none⟩,
    ⟨(some 11), .mov (.t 10), none⟩,
    ⟨(some 12), .faddr 2 (.t 1), some (11, true)⟩,
    ⟨(some 13), .load none (.t 12), some (11, true)⟩,
    ⟨(some 14), .bin .geq .no (.t 13) (.k (.c (.int .i64 0))), some (11, true)⟩,
    ⟨(some 15), .pick (.t 11) (.t 14) (.k (.c (.bool false))), none⟩,
    ⟨(some 16), .mov (.t 15), none⟩,
    ⟨(some 17), .faddr 2 (.t 1), some (16, true)⟩,
    ⟨(some 18), .load none (.t 17), some (16, true)⟩,
    ⟨(some 19), .bin .leq .no (.t 18) (.k (.c (.int .i64 4096))), some (16, true)⟩,
    ⟨(some 20), .pick (.t 16) (.t 19) (.k (.c (.bool false))), none⟩,
    ⟨(some 21), .mov (.t 20), none⟩,
    ⟨(some 22), .faddr 3 (.t 1), some (21, true)⟩,
    ⟨(some 23), .load none (.t 22), some (21, true)⟩,
    ⟨(some 24), .bin .geq .no (.t 23) (.k (.c (.int .i64 0))), some (21, true)⟩,
    ⟨(some 25), .pick (.t 21) (.t 24) (.k (.c (.bool false))), none⟩,
    ⟨(some 26), .mov (.t 25), none⟩,
    ⟨(some 27), .faddr 3 (.t 1), some (26, true)⟩,
    ⟨(some 28), .load none (.t 27), some (26, true)⟩,
    ⟨(some 29), .bin .leq .no (.t 28) (.k (.c (.int .i64 20000))), some (26, true)⟩,
    ⟨(some 30), .pick (.t 26) (.t 29) (.k (.c (.bool false))), none⟩,
    ⟨(some 2), .mov (.t 30), none⟩])
  (.ret))
def fun12 : SFun := ⟨code12, 31, [.tmp 2]⟩

/- 13 bowline/split.Share params #[3, 22] results #[30, 31] -/
def ann13 : Ann := ⟨[], [(1, [4, 5]), (2, [14, 15, 16]), (3, [0, 1, 17, 18]), (4, [6, 17, 18]), (5, [20, 21, 22]), (6, [23, 24]), (7, [66, 67]), (8, [63]), (9, [28]), (10, [29, 30]), (11, [31, 32, 33, 34, 35, 36, 37, 38, 39, 40]), (12, [41, 42]), (13, [41, 42, 43, 44, 45, 46, 47, 48, 49]), (14, [12, 50, 51, 52]), (15, [11, 53, 54, 55, 56, 57, 58, 59]), (16, [13, 60, 61, 62]), (17, [25, 26, 27, 28]), (18, [64, 65]), (19, [0, 1, 8, 9, 64, 65])]⟩
def lp13_0 : SCode :=
  .seq (.region [63] [⟨(some 28), .bin .lss .no (.t 27) (.t 26), none⟩])
  (.seq (.cond (.t 28)
    (.skip)
    (.exit 0))
  (.seq (.block 1 (.seq (.region [28] [⟨(some 29), .iaddr 1 none (.t 25) (.t 27), none⟩,
      ⟨(some 30), .load none (.t 29), none⟩,
      ⟨(some 11), .mov (.t 30), none⟩])
    (.seq (.drawn [29, 30] [⟨0, ⟨(some 31), .mov (.t 1), none⟩, []⟩,
      ⟨1, ⟨(some 32), .mov (.t 11), none⟩, []⟩,
      ⟨2, ⟨(some 33), .iaddr 4 none (.t 31) (.t 32), none⟩, []⟩,
      ⟨3, ⟨(some 34), .faddr 3 (.t 33), none⟩, []⟩,
      ⟨4, ⟨(some 35), .load none (.t 34), none⟩, []⟩,
      ⟨5, ⟨(some 36), .mov (.t 7), none⟩, []⟩,
      ⟨6, ⟨(some 37), .mov (.t 11), none⟩, []⟩,
      ⟨7, ⟨(some 38), .iaddr 1 none (.t 36) (.t 37), none⟩, []⟩,
      ⟨8, ⟨(some 39), .load none (.t 38), none⟩, []⟩,
      ⟨9, ⟨(some 40), .bin .sub .no (.t 35) (.t 39), none⟩, []⟩,
      ⟨10, ⟨(some 12), .mov (.t 40), none⟩, []⟩])
    (.seq (.seq (.region [31, 32, 33, 34, 35, 36, 37, 38, 39, 40] [⟨(some 41), .mov (.t 9), none⟩,
      ⟨(some 42), .bin .eql .no (.t 41) (.k (.c (.int .i64 0))), none⟩])
    (.cond (.t 42)
      (.region [41, 42] [⟨(some 43), .mov (.t 12), none⟩,
        ⟨(some 44), .mov (.t 1), none⟩,
        ⟨(some 45), .mov (.t 11), none⟩,
        ⟨(some 46), .iaddr 4 none (.t 44) (.t 45), none⟩,
        ⟨(some 47), .faddr 2 (.t 46), none⟩,
        ⟨(some 48), .load none (.t 47), none⟩,
        ⟨(some 49), .min [(.t 43), (.t 48)], none⟩,
        ⟨(some 12), .mov (.t 49), none⟩])
      (.skip)))
    (.seq (.region [41, 42, 43, 44, 45, 46, 47, 48, 49] [⟨(some 50), .mov (.t 12), none⟩,
      ⟨(some 51), .mov (.t 0), none⟩,
      ⟨(some 52), .min [(.t 50), (.t 51)], none⟩,
      ⟨(some 13), .mov (.t 52), none⟩])
    (.seq (.region [12, 50, 51, 52] [⟨(some 53), .mov (.t 7), none⟩,
      ⟨(some 54), .mov (.t 11), none⟩,
      ⟨(some 55), .iaddr 1 none (.t 53) (.t 54), none⟩,
      ⟨(some 56), .load none (.t 55), none⟩,
      ⟨(some 57), .mov (.t 13), none⟩,
      ⟨(some 58), .bin .add .no (.t 56) (.t 57), none⟩,
      ⟨(some 59), .iaddr 1 none (.t 53) (.t 54), none⟩,
      ⟨none, .store none (.t 59) (.t 58), none⟩])
    (.region [11, 53, 54, 55, 56, 57, 58, 59] [⟨(some 60), .mov (.t 0), none⟩,
      ⟨(some 61), .mov (.t 13), none⟩,
      ⟨(some 62), .bin .sub .no (.t 60) (.t 61), none⟩,
      ⟨(some 0), .mov (.t 62), none⟩])))))))
  (.region [13, 60, 61, 62] [⟨(some 63), .bin .add .no (.t 27) (.k (.c (.int .i64 1))), none⟩,
    ⟨(some 27), .mov (.t 63), none⟩])))
def lp13_1 : SCode :=
  .seq (.region [63] [⟨(some 28), .bin .lss .no (.t 27) (.t 26), none⟩])
  (.seq (.cond (.t 28)
    (.skip)
    (.exit 0))
  (.seq (.block 1 (.seq (.region [28] [⟨(some 29), .iaddr 1 none (.t 25) (.t 27), none⟩,
      ⟨(some 30), .load none (.t 29), none⟩,
      ⟨(some 11), .mov (.t 30), none⟩])
    (.seq (.drawn [29, 30] [⟨0, ⟨(some 31), .mov (.t 1), none⟩, []⟩,
      ⟨1, ⟨(some 32), .mov (.t 11), none⟩, []⟩,
      ⟨2, ⟨(some 33), .iaddr 4 none (.t 31) (.t 32), none⟩, []⟩,
      ⟨3, ⟨(some 34), .faddr 3 (.t 33), none⟩, []⟩,
      ⟨4, ⟨(some 35), .load none (.t 34), none⟩, []⟩,
      ⟨5, ⟨(some 36), .mov (.t 7), none⟩, []⟩,
      ⟨6, ⟨(some 37), .mov (.t 11), none⟩, []⟩,
      ⟨7, ⟨(some 38), .iaddr 1 none (.t 36) (.t 37), none⟩, []⟩,
      ⟨8, ⟨(some 39), .load none (.t 38), none⟩, []⟩,
      ⟨9, ⟨(some 40), .bin .sub .no (.t 35) (.t 39), none⟩, []⟩,
      ⟨10, ⟨(some 12), .mov (.t 40), none⟩, []⟩])
    (.seq (.seq (.region [31, 32, 33, 34, 35, 36, 37, 38, 39, 40] [⟨(some 41), .mov (.t 9), none⟩,
      ⟨(some 42), .bin .eql .no (.t 41) (.k (.c (.int .i64 0))), none⟩])
    (.cond (.t 42)
      (.region [41, 42] [⟨(some 43), .mov (.t 12), none⟩,
        ⟨(some 44), .mov (.t 1), none⟩,
        ⟨(some 45), .mov (.t 11), none⟩,
        ⟨(some 46), .iaddr 4 none (.t 44) (.t 45), none⟩,
        ⟨(some 47), .faddr 2 (.t 46), none⟩,
        ⟨(some 48), .load none (.t 47), none⟩,
        ⟨(some 49), .min [(.t 43), (.t 48)], none⟩,
        ⟨(some 12), .mov (.t 49), none⟩])
      (.skip)))
    (.seq (.region [41, 42, 43, 44, 45, 46, 47, 48, 49] [⟨(some 50), .mov (.t 12), none⟩,
      ⟨(some 51), .mov (.t 0), none⟩,
      ⟨(some 52), .min [(.t 50), (.t 51)], none⟩,
      ⟨(some 13), .mov (.t 52), none⟩])
    (.seq (.region [12, 50, 51, 52] [⟨(some 53), .mov (.t 7), none⟩,
      ⟨(some 54), .mov (.t 11), none⟩,
      ⟨(some 55), .iaddr 1 none (.t 53) (.t 54), none⟩,
      ⟨(some 56), .load none (.t 55), none⟩,
      ⟨(some 57), .mov (.t 13), none⟩,
      ⟨(some 58), .bin .add .no (.t 56) (.t 57), none⟩,
      ⟨(some 59), .iaddr 1 none (.t 53) (.t 54), none⟩,
      ⟨none, .store none (.t 59) (.t 58), none⟩])
    (.region [11, 53, 54, 55, 56, 57, 58, 59] [⟨(some 60), .mov (.t 0), none⟩,
      ⟨(some 61), .mov (.t 13), none⟩,
      ⟨(some 62), .bin .sub .no (.t 60) (.t 61), none⟩,
      ⟨(some 0), .mov (.t 62), none⟩])))))))
  (.region [13, 60, 61, 62] [⟨(some 63), .bin .add .no (.t 27) (.k (.c (.int .i64 1))), none⟩,
    ⟨(some 27), .mov (.t 63), none⟩])))
def sc13_2 : SCode :=
  .seq (.skip)
  (.seq (.seq (.region [66, 67] [⟨(some 25), .mov (.t 8), none⟩,
    ⟨(some 26), .len .sl (.t 25), none⟩,
    ⟨(some 27), .mov (.k (.c (.int .i64 0))), none⟩])
  (.block 0 (.loop lp13_1)))
  (.seq (.seq (.region [25, 26, 27, 28] [⟨(some 64), .mov (.t 9), none⟩,
    ⟨(some 65), .bin .eql .no (.t 64) (.k (.c (.int .i64 0))), none⟩])
  (.cond (.t 65)
    (.seq (.region [64, 65] [⟨(some 66), .mov (.t 9), none⟩,
      ⟨(some 67), .bin .add .no (.t 66) (.k (.c (.int .i64 1))), none⟩,
      ⟨(some 9), .mov (.t 67), none⟩])
    (.goto 0))
    (.skip)))
  (.seq (.region [0, 1, 8, 9, 64, 65] [⟨(some 68), .mov (.t 7), none⟩,
    ⟨(some 4), .mov (.t 68), none⟩,
    ⟨(some 5), .mov (.k (.c (.int .i64 0))), none⟩])
  (.ret))))
def code13 : SCode :=
  .seq (.region [] [⟨(some 4), .mov (.k (.c (.slice none 0 0))), none⟩,
    ⟨(some 5), .mov (.k (.c (.int .i64 0))), none⟩])
  (.scope (.seq (.seq (.region [4, 5] [⟨(some 14), .mov (.t 0), none⟩,
      ⟨(some 15), .mov (.t 1), none⟩,
      ⟨(some 16), .call 34 [(.t 14), (.t 15)], none⟩,
      ⟨(some 6), .mov (.t 16), none⟩])
    (.seq (.region [14, 15, 16] [⟨(some 17), .mov (.t 6), none⟩,
      ⟨(some 18), .bin .neq .no (.t 17) (.k (.c (.int .i64 0))), none⟩])
    (.cond (.t 18)
      (.seq (.region [0, 1, 17, 18] [⟨(some 19), .mov (.t 6), none⟩,
        ⟨(some 4), .mov (.k (.c (.slice none 0 0))), none⟩,
        ⟨(some 5), .mov (.t 19), none⟩])
      (.ret))
      (.skip))))
    (.seq (.region [6, 17, 18] [⟨(some 20), .mov (.t 1), none⟩,
      ⟨(some 21), .len .sl (.t 20), none⟩,
      ⟨(some 22), .mks 1 8 [(.c (.int .i64 0))] (.t 21) (.t 21), none⟩,
      ⟨(some 7), .mov (.t 22), none⟩])
    (.seq (.region [20, 21, 22] [⟨(some 23), .mov (.t 1), none⟩,
      ⟨(some 24), .call 16 [(.t 23)], none⟩,
      ⟨(some 8), .mov (.t 24), none⟩])
    (.seq (.region [23, 24] [⟨(some 9), .mov (.k (.c (.int .i64 0))), none⟩])
    (.seq (.label 0)
    (.seq (.seq (.region [66, 67] [⟨(some 25), .mov (.t 8), none⟩,
      ⟨(some 26), .len .sl (.t 25), none⟩,
      ⟨(some 27), .mov (.k (.c (.int .i64 0))), none⟩])
    (.block 0 (.loop lp13_0)))
    (.seq (.seq (.region [25, 26, 27, 28] [⟨(some 64), .mov (.t 9), none⟩,
      ⟨(some 65), .bin .eql .no (.t 64) (.k (.c (.int .i64 0))), none⟩])
    (.cond (.t 65)
      (.seq (.region [64, 65] [⟨(some 66), .mov (.t 9), none⟩,
        ⟨(some 67), .bin .add .no (.t 66) (.k (.c (.int .i64 1))), none⟩,
        ⟨(some 9), .mov (.t 67), none⟩])
      (.goto 0))
      (.skip)))
    (.seq (.region [0, 1, 8, 9, 64, 65] [⟨(some 68), .mov (.t 7), none⟩,
      ⟨(some 4), .mov (.t 68), none⟩,
      ⟨(some 5), .mov (.k (.c (.int .i64 0))), none⟩])
    (.ret))))))))) 0 sc13_2)
def fun13 : SFun := ⟨code13, 69, [.tmp 4, .tmp 5]⟩

/- 14 bowline/bowlineref29.Share params #[3, 24] results #[30, 31] -/
def ann14 : Ann := ⟨[], [(1, [4, 5]), (2, [0, 1, 13, 14, 15, 16, 17, 18, 19, 20, 21, 22, 23]), (3, [13, 14, 15, 16, 17, 18, 19, 20, 21, 22, 23]), (4, [28, 29]), (6, [24, 25, 26, 27]), (7, [0, 1, 6, 30, 31, 32, 33, 34, 35]), (5, [30, 31, 32, 33, 34, 35]), (8, [6, 24, 25, 26, 27]), (9, [40, 41]), (11, [36, 37, 38, 39]), (12, [45, 46]), (14, [42, 43, 44]), (15, [0, 1, 7, 8, 47, 48, 49, 50, 51, 52, 53, 54, 55, 56, 57]), (13, [47, 48, 49, 50, 51, 52, 53, 54, 55, 56, 57]), (10, [8, 42, 43, 44]), (16, [7, 36, 37, 38, 39]), (17, [58, 59, 60]), (18, [61, 62]), (19, [67, 68]), (21, [63, 64, 65, 66, 116, 117]), (22, [69, 70, 71, 72, 73, 74, 75, 76, 77, 78, 79, 80, 81, 82, 83, 84, 85, 86, 87, 88, 89, 90, 91, 92, 93, 94, 95, 96, 97, 98, 99, 100, 101, 102, 103, 104, 105, 106]), (23, [107, 108, 109, 110, 111, 112, 113, 114, 115]), (20, [69, 70, 71, 72, 73, 74, 75, 76, 77, 78, 79, 80, 81, 82, 83, 84, 85, 86, 87, 88, 89, 90, 91, 92, 93, 94, 95, 96, 97, 98, 99, 100, 101, 102, 103, 104, 105, 106]), (24, [11, 63, 64, 65, 66]), (25, [122, 123]), (27, [118, 119, 120, 121, 153, 154]), (28, [124, 125, 126, 127, 128, 129, 130, 131, 132, 133, 134, 135, 136, 137, 138, 139, 140, 141, 142, 143]), (29, [144, 145, 146, 147, 148, 149, 150, 151, 152]), (26, [124, 125, 126, 127, 128, 129, 130, 131, 132, 133, 134, 135, 136, 137, 138, 139, 140, 141, 142, 143]), (30, [0, 1, 10, 12, 118, 119, 120, 121])]⟩
def lp14_0 : SCode :=
  .seq (.seq (.region [28, 29] [⟨(some 24), .mov (.t 6), none⟩,
    ⟨(some 25), .mov (.t 1), none⟩,
    ⟨(some 26), .len .sl (.t 25), none⟩,
    ⟨(some 27), .bin .lss .no (.t 24) (.t 26), none⟩])
  (.cond (.t 27)
    (.skip)
    (.exit 0)))
  (.seq (.block 1 (.seq (.region [24, 25, 26, 27] [⟨(some 30), .mov (.t 1), none⟩,
      ⟨(some 31), .mov (.t 6), none⟩,
      ⟨(some 32), .iaddr 4 none (.t 30) (.t 31), none⟩,
      ⟨(some 33), .load (some 4) (.t 32), none⟩,
      ⟨(some 34), .call 12 [(.t 33)], none⟩,
      ⟨(some 35), .un .not (.t 34), none⟩])
    (.cond (.t 35)
      (.seq (.region [0, 1, 6, 30, 31, 32, 33, 34, 35] [⟨(some 4), .mov (.k (.c (.slice none 0 0))), none⟩,
        ⟨(some 5), .mov (.k (.c (.int .i64 3))), none⟩])
      (.ret))
      (.skip))))
  (.region [30, 31, 32, 33, 34, 35] [⟨(some 28), .mov (.t 6), none⟩,
    ⟨(some 29), .bin .add .no (.t 28) (.k (.c (.int .i64 1))), none⟩,
    ⟨(some 6), .mov (.t 29), none⟩]))
def lp14_1 : SCode :=
  .seq (.seq (.region [45, 46] [⟨(some 42), .mov (.t 8), none⟩,
    ⟨(some 43), .mov (.t 7), none⟩,
    ⟨(some 44), .bin .lss .no (.t 42) (.t 43), none⟩])
  (.cond (.t 44)
    (.skip)
    (.exit 4)))
  (.seq (.block 5 (.seq (.drawn [42, 43, 44] [⟨0, ⟨(some 47), .mov (.t 1), none⟩, []⟩,
      ⟨1, ⟨(some 48), .mov (.t 7), none⟩, []⟩,
      ⟨2, ⟨(some 49), .iaddr 4 none (.t 47) (.t 48), none⟩, []⟩,
      ⟨3, ⟨(some 50), .faddr 0 (.t 49), none⟩, []⟩,
      ⟨4, ⟨(some 51), .load none (.t 50), none⟩, []⟩,
      ⟨5, ⟨(some 52), .mov (.t 1), none⟩, []⟩,
      ⟨6, ⟨(some 53), .mov (.t 8), none⟩, []⟩,
      ⟨7, ⟨(some 54), .iaddr 4 none (.t 52) (.t 53), none⟩, []⟩,
      ⟨8, ⟨(some 55), .faddr 0 (.t 54), none⟩, []⟩,
      ⟨9, ⟨(some 56), .load none (.t 55), none⟩, []⟩,
      ⟨10, ⟨(some 57), .bin .eql .no (.t 51) (.t 56), none⟩, []⟩])
    (.cond (.t 57)
      (.seq (.region [0, 1, 7, 8, 47, 48, 49, 50, 51, 52, 53, 54, 55, 56, 57] [⟨(some 4), .mov (.k (.c (.slice none 0 0))), none⟩,
        ⟨(some 5), .mov (.k (.c (.int .i64 12))), none⟩])
      (.ret))
      (.skip))))
  (.region [47, 48, 49, 50, 51, 52, 53, 54, 55, 56, 57] [⟨(some 45), .mov (.t 8), none⟩,
    ⟨(some 46), .bin .add .no (.t 45) (.k (.c (.int .i64 1))), none⟩,
    ⟨(some 8), .mov (.t 46), none⟩]))
def lp14_2 : SCode :=
  .seq (.seq (.region [40, 41] [⟨(some 36), .mov (.t 7), none⟩,
    ⟨(some 37), .mov (.t 1), none⟩,
    ⟨(some 38), .len .sl (.t 37), none⟩,
    ⟨(some 39), .bin .lss .no (.t 36) (.t 38), none⟩])
  (.cond (.t 39)
    (.skip)
    (.exit 2)))
  (.seq (.block 3 (.seq (.region [36, 37, 38, 39] [⟨(some 8), .mov (.k (.c (.int .i64 0))), none⟩])
    (.block 4 (.loop lp14_1))))
  (.region [8, 42, 43, 44] [⟨(some 40), .mov (.t 7), none⟩,
    ⟨(some 41), .bin .add .no (.t 40) (.k (.c (.int .i64 1))), none⟩,
    ⟨(some 7), .mov (.t 41), none⟩]))
def lp14_3 : SCode :=
  .seq (.seq (.drawn [63, 64, 65, 66, 116, 117] [⟨0, ⟨(some 69), .mov (.t 0), none⟩, []⟩,
    ⟨1, ⟨(some 70), .bin .gtr .no (.t 69) (.k (.c (.int .i64 0))), none⟩, []⟩,
    ⟨2, ⟨(some 71), .mov (.t 70), none⟩, []⟩,
    ⟨3, ⟨(some 72), .mov (.t 9), some (71, true)⟩, []⟩,
    ⟨4, ⟨(some 73), .mov (.t 10), some (71, true)⟩, []⟩,
    ⟨5, ⟨(some 74), .mov (.t 11), some (71, true)⟩, []⟩,
    ⟨6, ⟨(some 75), .iaddr 1 none (.t 73) (.t 74), some (71, true)⟩, []⟩,
    ⟨7, ⟨(some 76), .load none (.t 75), some (71, true)⟩, []⟩,
    ⟨8, ⟨(some 77), .iaddr 1 none (.t 72) (.t 76), some (71, true)⟩, []⟩,
    ⟨9, ⟨(some 78), .load none (.t 77), some (71, true)⟩, []⟩,
    ⟨10, ⟨(some 79), .mov (.t 1), some (71, true)⟩, []⟩,
    ⟨11, ⟨(some 80), .mov (.t 10), some (71, true)⟩, []⟩,
    ⟨12, ⟨(some 81), .mov (.t 11), some (71, true)⟩, []⟩,
    ⟨13, ⟨(some 82), .iaddr 1 none (.t 80) (.t 81), some (71, true)⟩, []⟩,
    ⟨14, ⟨(some 83), .load none (.t 82), some (71, true)⟩, []⟩,
    ⟨15, ⟨(some 84), .iaddr 4 none (.t 79) (.t 83), some (71, true)⟩, []⟩,
    ⟨16, ⟨(some 85), .faddr 3 (.t 84), some (71, true)⟩, []⟩,
    ⟨17, ⟨(some 86), .load none (.t 85), some (71, true)⟩, []⟩,
    ⟨18, ⟨(some 87), .bin .lss .no (.t 78) (.t 86), some (71, true)⟩, []⟩,
    ⟨19, ⟨(some 88), .pick (.t 71) (.t 87) (.k (.c (.bool false))), none⟩, []⟩,
    ⟨20, ⟨(some 89), .mov (.t 88), none⟩, []⟩,
    ⟨21, ⟨(some 90), .mov (.t 9), some (89, true)⟩, []⟩,
    ⟨22, ⟨(some 91), .mov (.t 10), some (89, true)⟩, []⟩,
    ⟨23, ⟨(some 92), .mov (.t 11), some (89, true)⟩, []⟩,
    ⟨24, ⟨(some 93), .iaddr 1 none (.t 91) (.t 92), some (89, true)⟩, []⟩,
    ⟨25, ⟨(some 94), .load none (.t 93), some (89, true)⟩, []⟩,
    ⟨26, ⟨(some 95), .iaddr 1 none (.t 90) (.t 94), some (89, true)⟩, []⟩,
    ⟨27, ⟨(some 96), .load none (.t 95), some (89, true)⟩, []⟩,
    ⟨28, ⟨(some 97), .mov (.t 1), some (89, true)⟩, []⟩,
    ⟨29, ⟨(some 98), .mov (.t 10), some (89, true)⟩, []⟩,
    ⟨30, ⟨(some 99), .mov (.t 11), some (89, true)⟩, []⟩,
    ⟨31, ⟨(some 100), .iaddr 1 none (.t 98) (.t 99), some (89, true)⟩, []⟩,
    ⟨32, ⟨(some 101), .load none (.t 100), some (89, true)⟩, []⟩,
    ⟨33, ⟨(some 102), .iaddr 4 none (.t 97) (.t 101), some (89, true)⟩, []⟩,
    ⟨34, ⟨(some 103), .faddr 2 (.t 102), some (89, true)⟩, []⟩,
    ⟨35, ⟨(some 104), .load none (.t 103), some (89, true)⟩, []⟩,
    ⟨36, ⟨(some 105), .bin .lss .no (.t 96) (.t 104), some (89, true)⟩, []⟩,
    ⟨37, ⟨(some 106), .pick (.t 89) (.t 105) (.k (.c (.bool false))), none⟩, []⟩])
  (.cond (.t 106)
    (.skip)
    (.exit 8)))
  (.block 9 (.seq (.region [69, 70, 71, 72, 73, 74, 75, 76, 77, 78, 79, 80, 81, 82, 83, 84, 85, 86, 87, 88, 89, 90, 91, 92, 93, 94, 95, 96, 97, 98, 99, 100, 101, 102, 103, 104, 105, 106] [⟨(some 107), .mov (.t 9), none⟩,
      ⟨(some 108), .mov (.t 10), none⟩,
      ⟨(some 109), .mov (.t 11), none⟩,
      ⟨(some 110), .iaddr 1 none (.t 108) (.t 109), none⟩,
      ⟨(some 111), .load none (.t 110), none⟩,
      ⟨(some 112), .iaddr 1 none (.t 107) (.t 111), none⟩,
      ⟨(some 113), .load none (.t 112), none⟩,
      ⟨(some 114), .bin .add .no (.t 113) (.k (.c (.int .i64 1))), none⟩,
      ⟨(some 115), .iaddr 1 none (.t 107) (.t 111), none⟩,
      ⟨none, .store none (.t 115) (.t 114), none⟩])
    (.region [107, 108, 109, 110, 111, 112, 113, 114, 115] [⟨(some 116), .mov (.t 0), none⟩,
      ⟨(some 117), .bin .sub .no (.t 116) (.k (.c (.int .i64 1))), none⟩,
      ⟨(some 0), .mov (.t 117), none⟩])))
def lp14_4 : SCode :=
  .seq (.seq (.region [67, 68] [⟨(some 63), .mov (.t 11), none⟩,
    ⟨(some 64), .mov (.t 10), none⟩,
    ⟨(some 65), .len .sl (.t 64), none⟩,
    ⟨(some 66), .bin .lss .no (.t 63) (.t 65), none⟩])
  (.cond (.t 66)
    (.skip)
    (.exit 6)))
  (.seq (.block 7 (.block 8 (.loop lp14_3)))
  (.region [69, 70, 71, 72, 73, 74, 75, 76, 77, 78, 79, 80, 81, 82, 83, 84, 85, 86, 87, 88, 89, 90, 91, 92, 93, 94, 95, 96, 97, 98, 99, 100, 101, 102, 103, 104, 105, 106] [⟨(some 67), .mov (.t 11), none⟩,
    ⟨(some 68), .bin .add .no (.t 67) (.k (.c (.int .i64 1))), none⟩,
    ⟨(some 11), .mov (.t 68), none⟩]))
def lp14_5 : SCode :=
  .seq (.seq (.drawn [118, 119, 120, 121, 153, 154] [⟨0, ⟨(some 124), .mov (.t 0), none⟩, []⟩,
    ⟨1, ⟨(some 125), .bin .gtr .no (.t 124) (.k (.c (.int .i64 0))), none⟩, []⟩,
    ⟨2, ⟨(some 126), .mov (.t 125), none⟩, []⟩,
    ⟨3, ⟨(some 127), .mov (.t 9), some (126, true)⟩, []⟩,
    ⟨4, ⟨(some 128), .mov (.t 10), some (126, true)⟩, []⟩,
    ⟨5, ⟨(some 129), .mov (.t 12), some (126, true)⟩, []⟩,
    ⟨6, ⟨(some 130), .iaddr 1 none (.t 128) (.t 129), some (126, true)⟩, []⟩,
    ⟨7, ⟨(some 131), .load none (.t 130), some (126, true)⟩, []⟩,
    ⟨8, ⟨(some 132), .iaddr 1 none (.t 127) (.t 131), some (126, true)⟩, []⟩,
    ⟨9, ⟨(some 133), .load none (.t 132), some (126, true)⟩, []⟩,
    ⟨10, ⟨(some 134), .mov (.t 1), some (126, true)⟩, []⟩,
    ⟨11, ⟨(some 135), .mov (.t 10), some (126, true)⟩, []⟩,
    ⟨12, ⟨(some 136), .mov (.t 12), some (126, true)⟩, []⟩,
    ⟨13, ⟨(some 137), .iaddr 1 none (.t 135) (.t 136), some (126, true)⟩, []⟩,
    ⟨14, ⟨(some 138), .load none (.t 137), some (126, true)⟩, []⟩,
    ⟨15, ⟨(some 139), .iaddr 4 none (.t 134) (.t 138), some (126, true)⟩, []⟩,
    ⟨16, ⟨(some 140), .faddr 3 (.t 139), some (126, true)⟩, []⟩,
    ⟨17, ⟨(some 141), .load none (.t 140), some (126, true)⟩, []⟩,
    ⟨18, ⟨(some 142), .bin .lss .no (.t 133) (.t 141), some (126, true)⟩, []⟩,
    ⟨19, ⟨(some 143), .pick (.t 126) (.t 142) (.k (.c (.bool false))), none⟩, []⟩])
  (.cond (.t 143)
    (.skip)
    (.exit 12)))
  (.block 13 (.seq (.region [124, 125, 126, 127, 128, 129, 130, 131, 132, 133, 134, 135, 136, 137, 138, 139, 140, 141, 142, 143] [⟨(some 144), .mov (.t 9), none⟩,
      ⟨(some 145), .mov (.t 10), none⟩,
      ⟨(some 146), .mov (.t 12), none⟩,
      ⟨(some 147), .iaddr 1 none (.t 145) (.t 146), none⟩,
      ⟨(some 148), .load none (.t 147), none⟩,
      ⟨(some 149), .iaddr 1 none (.t 144) (.t 148), none⟩,
      ⟨(some 150), .load none (.t 149), none⟩,
      ⟨(some 151), .bin .add .no (.t 150) (.k (.c (.int .i64 1))), none⟩,
      ⟨(some 152), .iaddr 1 none (.t 144) (.t 148), none⟩,
      ⟨none, .store none (.t 152) (.t 151), none⟩])
    (.region [144, 145, 146, 147, 148, 149, 150, 151, 152] [⟨(some 153), .mov (.t 0), none⟩,
      ⟨(some 154), .bin .sub .no (.t 153) (.k (.c (.int .i64 1))), none⟩,
      ⟨(some 0), .mov (.t 154), none⟩])))
def lp14_6 : SCode :=
  .seq (.seq (.region [122, 123] [⟨(some 118), .mov (.t 12), none⟩,
    ⟨(some 119), .mov (.t 10), none⟩,
    ⟨(some 120), .len .sl (.t 119), none⟩,
    ⟨(some 121), .bin .lss .no (.t 118) (.t 120), none⟩])
  (.cond (.t 121)
    (.skip)
    (.exit 10)))
  (.seq (.block 11 (.block 12 (.loop lp14_5)))
  (.region [124, 125, 126, 127, 128, 129, 130, 131, 132, 133, 134, 135, 136, 137, 138, 139, 140, 141, 142, 143] [⟨(some 122), .mov (.t 12), none⟩,
    ⟨(some 123), .bin .add .no (.t 122) (.k (.c (.int .i64 1))), none⟩,
    ⟨(some 12), .mov (.t 123), none⟩]))
def code14 : SCode :=
  .seq (.region [] [⟨(some 4), .mov (.k (.c (.slice none 0 0))), none⟩,
    ⟨(some 5), .mov (.k (.c (.int .i64 0))), none⟩])
  (.seq (.seq (.region [4, 5] [⟨(some 13), .mov (.t 0), none⟩,
    ⟨(some 14), .bin .lss .no (.t 13) (.k (.c (.int .i64 0))), none⟩,
    ⟨(some 15), .mov (.t 14), none⟩,
    ⟨(some 16), .mov (.t 0), some (15, false)⟩,
    ⟨(some 17), .bin .gtr .no (.t 16) (.k (.c (.int .i64 4096))), some (15, false)⟩,
    ⟨(some 18), .pick (.t 15) (.k (.c (.bool true))) (.t 17), none⟩,
    ⟨(some 19), .mov (.t 18), none⟩,
    ⟨(some 20), .mov (.t 1), some (19, false)⟩,
    ⟨(some 21), .len .sl (.t 20), some (19, false)⟩,
    ⟨(some 22), .bin .gtr .no (.t 21) (.k (.c (.int .i64 32))), some (19, false)⟩,
    ⟨(some 23), .pick (.t 19) (.k (.c (.bool true))) (.t 22), none⟩])
  (.cond (.t 23)
    (.seq (.region [0, 1, 13, 14, 15, 16, 17, 18, 19, 20, 21, 22, 23] [⟨(some 4), .mov (.k (.c (.slice none 0 0))), none⟩,
      ⟨(some 5), .mov (.k (.c (.int .i64 1))), none⟩])
    (.ret))
    (.skip)))
  (.seq (.seq (.region [13, 14, 15, 16, 17, 18, 19, 20, 21, 22, 23] [⟨(some 6), .mov (.k (.c (.int .i64 0))), none⟩])
  (.block 0 (.loop lp14_0)))
  (.seq (.seq (.region [6, 24, 25, 26, 27] [⟨(some 7), .mov (.k (.c (.int .i64 0))), none⟩])
  (.block 2 (.loop lp14_2)))
  (.seq (.region [7, 36, 37, 38, 39] [⟨(some 58), .mov (.t 1), none⟩,
    ⟨(some 59), .len .sl (.t 58), none⟩,
    ⟨(some 60), .mks 1 8 [(.c (.int .i64 0))] (.t 59) (.t 59), none⟩,
    ⟨(some 9), .mov (.t 60), none⟩])
  (.seq (.region [58, 59, 60] [⟨(some 61), .mov (.t 1), none⟩,
    ⟨(some 62), .call 17 [(.t 61)], none⟩,
    ⟨(some 10), .mov (.t 62), none⟩])
  (.seq (.seq (.region [61, 62] [⟨(some 11), .mov (.k (.c (.int .i64 0))), none⟩])
  (.block 6 (.loop lp14_4)))
  (.seq (.seq (.region [11, 63, 64, 65, 66] [⟨(some 12), .mov (.k (.c (.int .i64 0))), none⟩])
  (.block 10 (.loop lp14_6)))
  (.seq (.region [0, 1, 10, 12, 118, 119, 120, 121] [⟨(some 155), .mov (.t 9), none⟩,
    ⟨(some 4), .mov (.t 155), none⟩,
    ⟨(some 5), .mov (.k (.c (.int .i64 0))), none⟩])
  (.ret)))))))))
def fun14 : SFun := ⟨code14, 156, [.tmp 4, .tmp 5]⟩

/- 15 bowline/bowlinelaw29.same params #[30, 30] results #[4] -/
def ann15 : Ann := ⟨[], [(1, [4]), (2, [0, 1, 6, 7, 8, 9, 10]), (3, [6, 7, 8, 9, 10]), (4, [15, 16]), (6, [11, 12, 13, 14]), (7, [0, 1, 5, 17, 18, 19, 20, 21, 22, 23, 24, 25]), (5, [17, 18, 19, 20, 21, 22, 23, 24, 25]), (8, [0, 1, 5, 11, 12, 13, 14])]⟩
def lp15_0 : SCode :=
  .seq (.seq (.region [15, 16] [⟨(some 11), .mov (.t 5), none⟩,
    ⟨(some 12), .mov (.t 0), none⟩,
    ⟨(some 13), .len .sl (.t 12), none⟩,
    ⟨(some 14), .bin .lss .no (.t 11) (.t 13), none⟩])
  (.cond (.t 14)
    (.skip)
    (.exit 0)))
  (.seq (.block 1 (.seq (.drawn [11, 12, 13, 14] [⟨0, ⟨(some 17), .mov (.t 0), none⟩, []⟩,
      ⟨1, ⟨(some 18), .mov (.t 5), none⟩, []⟩,
      ⟨2, ⟨(some 19), .iaddr 1 none (.t 17) (.t 18), none⟩, []⟩,
      ⟨3, ⟨(some 20), .load none (.t 19), none⟩, []⟩,
      ⟨4, ⟨(some 21), .mov (.t 1), none⟩, []⟩,
      ⟨5, ⟨(some 22), .mov (.t 5), none⟩, []⟩,
      ⟨6, ⟨(some 23), .iaddr 1 none (.t 21) (.t 22), none⟩, []⟩,
      ⟨7, ⟨(some 24), .load none (.t 23), none⟩, []⟩,
      ⟨8, ⟨(some 25), .bin .neq .no (.t 20) (.t 24), none⟩, []⟩])
    (.cond (.t 25)
      (.seq (.region [0, 1, 5, 17, 18, 19, 20, 21, 22, 23, 24, 25] [⟨(some 4), .mov (.k (.c (.bool false))), none⟩])
      (.ret))
      (.skip))))
  (.region [17, 18, 19, 20, 21, 22, 23, 24, 25] [⟨(some 15), .mov (.t 5), none⟩,
    ⟨(some 16), .bin .add .no (.t 15) (.k (.c (.int .i64 1))), none⟩,
    ⟨(some 5), .mov (.t 16), none⟩]))
def code15 : SCode :=
  .seq (.region [] [⟨(some 4), .mov (.k (.c (.bool false))), none⟩])
  (.seq (.seq (.region [4] [⟨(some 6), .mov (.t 0), none⟩,
    ⟨(some 7), .len .sl (.t 6), none⟩,
    ⟨(some 8), .mov (.t 1), none⟩,
    ⟨(some 9), .len .sl (.t 8), none⟩,
    ⟨(some 10), .bin .neq .no (.t 7) (.t 9), none⟩])
  (.cond (.t 10)
    (.seq (.region [0, 1, 6, 7, 8, 9, 10] [⟨(some 4), .mov (.k (.c (.bool false))), none⟩])
    (.ret))
    (.skip)))
  (.seq (.seq (.region [6, 7, 8, 9, 10] [⟨(some 5), .mov (.k (.c (.int .i64 0))), none⟩])
  (.block 0 (.loop lp15_0)))
  (.seq (.region [0, 1, 5, 11, 12, 13, 14] [⟨(some 4), .mov (.k (.c (.bool true))), none⟩])
  (.ret))))
def fun15 : SFun := ⟨code15, 26, [.tmp 4]⟩

/- 16 bowline/split.Order params #[22] results #[30] -/
def ann16 : Ann := ⟨[], [(1, [0, 2]), (3, [5, 14]), (4, [8]), (5, [9]), (6, [4, 10, 11, 12, 13]), (7, [6, 7, 8]), (8, [1, 15, 16, 17])]⟩
def lp16_0 : SCode :=
  .seq (.region [5, 14] [⟨(some 8), .bin .lss .no (.t 7) (.t 6), none⟩])
  (.seq (.cond (.t 8)
    (.skip)
    (.exit 0))
  (.seq (.block 1 (.seq (.region [8] [⟨(some 9), .mov (.t 7), none⟩,
      ⟨(some 4), .mov (.t 9), none⟩])
    (.region [9] [⟨(some 10), .mov (.t 3), none⟩,
      ⟨(some 11), .mov (.t 4), none⟩,
      ⟨(some 12), .bslice 1 1 [(.c (.int .i64 0))] [(0, 1, (.t 11))], none⟩,
      ⟨(some 13), .append 1 8 (.t 10) (.t 12), none⟩,
      ⟨(some 3), .mov (.t 13), none⟩])))
  (.region [4, 10, 11, 12, 13] [⟨(some 14), .bin .add .no (.t 7) (.k (.c (.int .i64 1))), none⟩,
    ⟨(some 7), .mov (.t 14), none⟩])))
def code16 : SCode :=
  .seq (.region [] [⟨(some 1), .box 1 (.t 0), none⟩,
    ⟨(some 2), .mov (.k (.c (.slice none 0 0))), none⟩])
  (.seq (.region [0, 2] [⟨(some 3), .mov (.k (.c (.slice none 0 0))), none⟩])
  (.seq (.seq (.region [] [⟨(some 5), .load none (.t 1), none⟩,
    ⟨(some 6), .len .sl (.t 5), none⟩,
    ⟨(some 7), .mov (.k (.c (.int .i64 0))), none⟩])
  (.block 0 (.loop lp16_0)))
  (.seq (.region [6, 7, 8] [⟨(some 15), .mov (.t 3), none⟩,
    ⟨(some 16), .mkfn 36 [(.t 1)], none⟩,
    ⟨(some 17), .call 35 [(.t 15), (.t 16)], none⟩])
  (.seq (.region [1, 15, 16, 17] [⟨(some 18), .mov (.t 3), none⟩,
    ⟨(some 2), .mov (.t 18), none⟩])
  (.ret)))))
def fun16 : SFun := ⟨code16, 19, [.tmp 2]⟩

/- 17 bowline/bowlineref29.Order params #[24] results #[30] -/
def ann17 : Ann := ⟨[], [(1, [2]), (2, [7, 8, 9]), (3, [14, 15]), (5, [10, 11, 12, 13]), (7, [20, 21]), (9, [16, 17, 18, 19]), (10, [22, 23, 24, 25, 26, 27, 28, 29, 30, 31, 32, 33, 34, 35, 36, 37, 38, 39, 40, 41, 42, 43, 44, 45, 46, 47, 48, 49, 50]), (8, [22, 23, 24, 25, 26, 27, 28, 29, 30, 31, 32, 33, 34, 35, 36, 37, 38, 39, 40, 41, 42, 43, 44, 45, 46, 47, 48, 49, 50, 51, 52]), (11, [6, 16, 17, 18, 19]), (4, [5, 53, 54, 55, 56]), (12, [0, 4, 10, 11, 12, 13])]⟩
def lp17_0 : SCode :=
  .seq (.seq (.region [20, 21] [⟨(some 16), .mov (.t 6), none⟩,
    ⟨(some 17), .mov (.t 0), none⟩,
    ⟨(some 18), .len .sl (.t 17), none⟩,
    ⟨(some 19), .bin .lss .no (.t 16) (.t 18), none⟩])
  (.cond (.t 19)
    (.skip)
    (.exit 2)))
  (.seq (.block 3 (.seq (.drawn [16, 17, 18, 19] [⟨0, ⟨(some 22), .mov (.t 0), none⟩, []⟩,
      ⟨1, ⟨(some 23), .mov (.t 6), none⟩, []⟩,
      ⟨2, ⟨(some 24), .iaddr 4 none (.t 22) (.t 23), none⟩, []⟩,
      ⟨3, ⟨(some 25), .faddr 1 (.t 24), none⟩, []⟩,
      ⟨4, ⟨(some 26), .load none (.t 25), none⟩, []⟩,
      ⟨5, ⟨(some 27), .mov (.t 0), none⟩, []⟩,
      ⟨6, ⟨(some 28), .mov (.t 4), none⟩, []⟩,
      ⟨7, ⟨(some 29), .iaddr 4 none (.t 27) (.t 28), none⟩, []⟩,
      ⟨8, ⟨(some 30), .faddr 1 (.t 29), none⟩, []⟩,
      ⟨9, ⟨(some 31), .load none (.t 30), none⟩, []⟩,
      ⟨10, ⟨(some 32), .bin .lss .no (.t 26) (.t 31), none⟩, []⟩,
      ⟨11, ⟨(some 33), .mov (.t 32), none⟩, []⟩,
      ⟨12, ⟨(some 34), .mov (.t 0), some (33, false)⟩, []⟩,
      ⟨13, ⟨(some 35), .mov (.t 6), some (33, false)⟩, []⟩,
      ⟨14, ⟨(some 36), .iaddr 4 none (.t 34) (.t 35), some (33, false)⟩, []⟩,
      ⟨15, ⟨(some 37), .faddr 1 (.t 36), some (33, false)⟩, []⟩,
      ⟨16, ⟨(some 38), .load none (.t 37), some (33, false)⟩, []⟩,
      ⟨17, ⟨(some 39), .mov (.t 0), some (33, false)⟩, []⟩,
      ⟨18, ⟨(some 40), .mov (.t 4), some (33, false)⟩, []⟩,
      ⟨19, ⟨(some 41), .iaddr 4 none (.t 39) (.t 40), some (33, false)⟩, []⟩,
      ⟨20, ⟨(some 42), .faddr 1 (.t 41), some (33, false)⟩, []⟩,
      ⟨21, ⟨(some 43), .load none (.t 42), some (33, false)⟩, []⟩,
      ⟨22, ⟨(some 44), .bin .eql .no (.t 38) (.t 43), some (33, false)⟩, []⟩,
      ⟨23, ⟨(some 45), .mov (.t 44), some (33, false)⟩, []⟩,
      ⟨24, ⟨(some 46), .mov (.t 6), some (45, true)⟩, []⟩,
      ⟨25, ⟨(some 47), .mov (.t 4), some (45, true)⟩, []⟩,
      ⟨26, ⟨(some 48), .bin .lss .no (.t 46) (.t 47), some (45, true)⟩, []⟩,
      ⟨27, ⟨(some 49), .pick (.t 45) (.t 48) (.k (.c (.bool false))), some (33, false)⟩, []⟩,
      ⟨28, ⟨(some 50), .pick (.t 33) (.k (.c (.bool true))) (.t 49), none⟩, []⟩])
    (.cond (.t 50)
      (.region [22, 23, 24, 25, 26, 27, 28, 29, 30, 31, 32, 33, 34, 35, 36, 37, 38, 39, 40, 41, 42, 43, 44, 45, 46, 47, 48, 49, 50] [⟨(some 51), .mov (.t 5), none⟩,
        ⟨(some 52), .bin .add .no (.t 51) (.k (.c (.int .i64 1))), none⟩,
        ⟨(some 5), .mov (.t 52), none⟩])
      (.skip))))
  (.region [22, 23, 24, 25, 26, 27, 28, 29, 30, 31, 32, 33, 34, 35, 36, 37, 38, 39, 40, 41, 42, 43, 44, 45, 46, 47, 48, 49, 50, 51, 52] [⟨(some 20), .mov (.t 6), none⟩,
    ⟨(some 21), .bin .add .no (.t 20) (.k (.c (.int .i64 1))), none⟩,
    ⟨(some 6), .mov (.t 21), none⟩]))
def lp17_1 : SCode :=
  .seq (.seq (.region [14, 15] [⟨(some 10), .mov (.t 4), none⟩,
    ⟨(some 11), .mov (.t 0), none⟩,
    ⟨(some 12), .len .sl (.t 11), none⟩,
    ⟨(some 13), .bin .lss .no (.t 10) (.t 12), none⟩])
  (.cond (.t 13)
    (.skip)
    (.exit 0)))
  (.seq (.block 1 (.seq (.region [10, 11, 12, 13] [⟨(some 5), .mov (.k (.c (.int .i64 0))), none⟩])
    (.seq (.seq (.region [] [⟨(some 6), .mov (.k (.c (.int .i64 0))), none⟩])
    (.block 2 (.loop lp17_0)))
    (.region [6, 16, 17, 18, 19] [⟨(some 53), .mov (.t 3), none⟩,
      ⟨(some 54), .mov (.t 5), none⟩,
      ⟨(some 55), .mov (.t 4), none⟩,
      ⟨(some 56), .iaddr 1 none (.t 53) (.t 54), none⟩,
      ⟨none, .store none (.t 56) (.t 55), none⟩]))))
  (.region [5, 53, 54, 55, 56] [⟨(some 14), .mov (.t 4), none⟩,
    ⟨(some 15), .bin .add .no (.t 14) (.k (.c (.int .i64 1))), none⟩,
    ⟨(some 4), .mov (.t 15), none⟩]))
def code17 : SCode :=
  .seq (.region [] [⟨(some 2), .mov (.k (.c (.slice none 0 0))), none⟩])
  (.seq (.region [2] [⟨(some 7), .mov (.t 0), none⟩,
    ⟨(some 8), .len .sl (.t 7), none⟩,
    ⟨(some 9), .mks 1 8 [(.c (.int .i64 0))] (.t 8) (.t 8), none⟩,
    ⟨(some 3), .mov (.t 9), none⟩])
  (.seq (.seq (.region [7, 8, 9] [⟨(some 4), .mov (.k (.c (.int .i64 0))), none⟩])
  (.block 0 (.loop lp17_1)))
  (.seq (.region [0, 4, 10, 11, 12, 13] [⟨(some 57), .mov (.t 3), none⟩,
    ⟨(some 2), .mov (.t 57), none⟩])
  (.ret))))
def fun17 : SFun := ⟨code17, 58, [.tmp 2]⟩

/- 34 bowline/split.ask params #[3, 22] results #[31] -/
def ann34 : Ann := ⟨[], [(1, [4]), (2, [0, 1, 7, 8, 9, 10, 11, 12, 13, 14, 15, 16, 17]), (3, [0, 7, 8, 9, 10, 11, 12, 13, 14, 15, 16, 17]), (4, [1, 18, 19]), (5, [18, 19]), (6, [32]), (7, [23]), (8, [24, 25, 26]), (9, [1, 5, 6, 20, 21, 22, 27, 28, 29, 30, 31]), (10, [5, 6, 27, 28, 29, 30, 31]), (11, [1, 20, 21, 22, 23])]⟩
def lp34_0 : SCode :=
  .seq (.region [32] [⟨(some 23), .bin .lss .no (.t 22) (.t 21), none⟩])
  (.seq (.cond (.t 23)
    (.skip)
    (.exit 0))
  (.seq (.block 1 (.seq (.region [23] [⟨(some 24), .mov (.t 22), none⟩,
      ⟨(some 25), .iaddr 4 none (.t 20) (.t 22), none⟩,
      ⟨(some 26), .load (some 4) (.t 25), none⟩,
      ⟨(some 6), .new [(.c (.int .i64 0)), (.c (.int .i64 0)), (.c (.int .i64 0)), (.c (.int .i64 0))], none⟩,
      ⟨(some 5), .mov (.t 24), none⟩,
      ⟨none, .store (some 4) (.t 6) (.t 26), none⟩])
    (.seq (.region [24, 25, 26] [⟨(some 27), .mov (.t 1), none⟩,
      ⟨(some 28), .mov (.t 5), none⟩,
      ⟨(some 29), .cut (.slice 4) (.t 27) none (some (.t 28)) none, none⟩,
      ⟨(some 30), .mkfn 65 [(.t 6)], none⟩,
      ⟨(some 31), .call 63 [(.t 29), (.t 30)], none⟩])
    (.cond (.t 31)
      (.seq (.region [1, 5, 6, 20, 21, 22, 27, 28, 29, 30, 31] [⟨(some 4), .mov (.k (.c (.int .i64 12))), none⟩])
      (.ret))
      (.skip)))))
  (.region [5, 6, 27, 28, 29, 30, 31] [⟨(some 32), .bin .add .no (.t 22) (.k (.c (.int .i64 1))), none⟩,
    ⟨(some 22), .mov (.t 32), none⟩])))
def code34 : SCode :=
  .seq (.region [] [⟨(some 4), .mov (.k (.c (.int .i64 0))), none⟩])
  (.seq (.seq (.region [4] [⟨(some 7), .mov (.t 0), none⟩,
    ⟨(some 8), .bin .lss .no (.t 7) (.k (.c (.int .i64 0))), none⟩,
    ⟨(some 9), .mov (.t 8), none⟩,
    ⟨(some 10), .mov (.t 0), some (9, false)⟩,
    ⟨(some 11), .bin .gtr .no (.t 10) (.k (.c (.int .i64 4096))), some (9, false)⟩,
    ⟨(some 12), .pick (.t 9) (.k (.c (.bool true))) (.t 11), none⟩,
    ⟨(some 13), .mov (.t 12), none⟩,
    ⟨(some 14), .mov (.t 1), some (13, false)⟩,
    ⟨(some 15), .len .sl (.t 14), some (13, false)⟩,
    ⟨(some 16), .bin .gtr .no (.t 15) (.k (.c (.int .i64 32))), some (13, false)⟩,
    ⟨(some 17), .pick (.t 13) (.k (.c (.bool true))) (.t 16), none⟩])
  (.cond (.t 17)
    (.seq (.region [0, 1, 7, 8, 9, 10, 11, 12, 13, 14, 15, 16, 17] [⟨(some 4), .mov (.k (.c (.int .i64 1))), none⟩])
    (.ret))
    (.skip)))
  (.seq (.seq (.region [0, 7, 8, 9, 10, 11, 12, 13, 14, 15, 16, 17] [⟨(some 18), .mov (.t 1), none⟩,
    ⟨(some 19), .call 63 [(.t 18), (.k (.fn 64 []))], none⟩])
  (.cond (.t 19)
    (.seq (.region [1, 18, 19] [⟨(some 4), .mov (.k (.c (.int .i64 3))), none⟩])
    (.ret))
    (.skip)))
  (.seq (.seq (.region [18, 19] [⟨(some 20), .mov (.t 1), none⟩,
    ⟨(some 21), .len .sl (.t 20), none⟩,
    ⟨(some 22), .mov (.k (.c (.int .i64 0))), none⟩])
  (.block 0 (.loop lp34_0)))
  (.seq (.region [1, 20, 21, 22, 23] [⟨(some 4), .mov (.k (.c (.int .i64 0))), none⟩])
  (.ret)))))
def fun34 : SFun := ⟨code34, 33, [.tmp 4]⟩

/- 35 slices.SortStableFunc[[]int,int] params #[30, 67] results #[] -/
def ann35 : Ann := ⟨[], []⟩
def code35 : SCode :=
  .region [] [⟨(some 4), .mov (.t 0), none⟩,
    ⟨(some 5), .mov (.t 0), none⟩,
    ⟨(some 6), .len .sl (.t 5), none⟩,
    ⟨(some 7), .mov (.t 1), none⟩,
    ⟨(some 8), .call 66 [(.t 4), (.t 6), (.t 7)], none⟩]
def fun35 : SFun := ⟨code35, 9, []⟩

/- 36 bowline/split.Order$1 params #[3, 3] results #[3] -/
def ann36 : Ann := ⟨[], [(1, [5]), (2, [0, 1, 2, 6, 7, 8, 9, 10, 11, 12, 13, 14, 15, 16, 17]), (3, [6, 7, 8, 9, 10, 11, 12, 13, 14, 15, 16, 17]), (4, [0, 1, 2, 18, 19, 20, 21, 22, 23, 24, 25, 26, 27, 28, 29]), (5, [0, 1, 2, 18, 19, 20, 21, 22, 23, 24, 25, 26, 27, 28, 29])]⟩
def code36 : SCode :=
  .seq (.region [] [⟨(some 5), .mov (.k (.c (.int .i64 0))), none⟩])
  (.seq (.block 0 (.seq (.drawn [5] [⟨0, ⟨(some 7), .load none (.t 2), none⟩, []⟩,
      ⟨1, ⟨(some 8), .mov (.t 0), none⟩, []⟩,
      ⟨2, ⟨(some 9), .iaddr 4 none (.t 7) (.t 8), none⟩, []⟩,
      ⟨3, ⟨(some 10), .faddr 1 (.t 9), none⟩, []⟩,
      ⟨4, ⟨(some 11), .load none (.t 10), none⟩, []⟩,
      ⟨5, ⟨(some 12), .load none (.t 2), none⟩, []⟩,
      ⟨6, ⟨(some 13), .mov (.t 1), none⟩, []⟩,
      ⟨7, ⟨(some 14), .iaddr 4 none (.t 12) (.t 13), none⟩, []⟩,
      ⟨8, ⟨(some 15), .faddr 1 (.t 14), none⟩, []⟩,
      ⟨9, ⟨(some 16), .load none (.t 15), none⟩, []⟩,
      ⟨10, ⟨(some 17), .bin .lss .no (.t 11) (.t 16), none⟩, []⟩,
      ⟨11, ⟨(some 6), .mov (.t 17), none⟩, []⟩])
    (.cond (.t 6)
      (.seq (.region [0, 1, 2, 6, 7, 8, 9, 10, 11, 12, 13, 14, 15, 16, 17] [⟨(some 5), .mov (.k (.c (.int .i64 (-1)))), none⟩])
      (.ret))
      (.seq (.drawn [6, 7, 8, 9, 10, 11, 12, 13, 14, 15, 16, 17] [⟨0, ⟨(some 19), .load none (.t 2), none⟩, []⟩,
        ⟨1, ⟨(some 20), .mov (.t 0), none⟩, []⟩,
        ⟨2, ⟨(some 21), .iaddr 4 none (.t 19) (.t 20), none⟩, []⟩,
        ⟨3, ⟨(some 22), .faddr 1 (.t 21), none⟩, []⟩,
        ⟨4, ⟨(some 23), .load none (.t 22), none⟩, []⟩,
        ⟨5, ⟨(some 24), .load none (.t 2), none⟩, []⟩,
        ⟨6, ⟨(some 25), .mov (.t 1), none⟩, []⟩,
        ⟨7, ⟨(some 26), .iaddr 4 none (.t 24) (.t 25), none⟩, []⟩,
        ⟨8, ⟨(some 27), .faddr 1 (.t 26), none⟩, []⟩,
        ⟨9, ⟨(some 28), .load none (.t 27), none⟩, []⟩,
        ⟨10, ⟨(some 29), .bin .gtr .no (.t 23) (.t 28), none⟩, []⟩,
        ⟨11, ⟨(some 18), .mov (.t 29), none⟩, []⟩])
      (.cond (.t 18)
        (.seq (.region [0, 1, 2, 18, 19, 20, 21, 22, 23, 24, 25, 26, 27, 28, 29] [⟨(some 5), .mov (.k (.c (.int .i64 1))), none⟩])
        (.ret))
        (.skip))))))
  (.seq (.region [0, 1, 2, 18, 19, 20, 21, 22, 23, 24, 25, 26, 27, 28, 29] [⟨(some 5), .mov (.k (.c (.int .i64 0))), none⟩])
  (.ret)))
def fun36 : SFun := ⟨code36, 30, [.tmp 5]⟩

/- 63 slices.ContainsFunc[[]bowline/split.Ask,bowline/split.Ask] params #[22, 28] results #[4] -/
def ann63 : Ann := ⟨[], [(1, [4])]⟩
def code63 : SCode :=
  .seq (.region [] [⟨(some 4), .mov (.k (.c (.bool false))), none⟩])
  (.seq (.region [4] [⟨(some 5), .mov (.t 0), none⟩,
    ⟨(some 6), .mov (.t 1), none⟩,
    ⟨(some 7), .call 84 [(.t 5), (.t 6)], none⟩,
    ⟨(some 8), .bin .geq .no (.t 7) (.k (.c (.int .i64 0))), none⟩,
    ⟨(some 4), .mov (.t 8), none⟩])
  (.ret))
def fun63 : SFun := ⟨code63, 9, [.tmp 4]⟩

/- 64 bowline/split.ask$1 params #[26] results #[4] -/
def ann64 : Ann := ⟨[1], [(1, [0, 2])]⟩
def code64 : SCode :=
  .seq (.region [] [⟨(some 1), .lbox 4 (.t 0), none⟩,
    ⟨(some 2), .mov (.k (.c (.bool false))), none⟩])
  (.seq (.region [0, 2] [⟨(some 3), .load (some 4) (.t 1), none⟩,
    ⟨(some 4), .call 11 [(.t 3)], none⟩,
    ⟨(some 5), .un .not (.t 4), none⟩,
    ⟨(some 2), .mov (.t 5), none⟩])
  (.ret))
def fun64 : SFun := ⟨code64, 6, [.tmp 2]⟩

/- 65 bowline/split.ask$2 params #[26] results #[4] -/
def ann65 : Ann := ⟨[2], [(1, [0, 3])]⟩
def code65 : SCode :=
  .seq (.region [] [⟨(some 2), .lbox 4 (.t 0), none⟩,
    ⟨(some 3), .mov (.k (.c (.bool false))), none⟩])
  (.seq (.region [0, 3] [⟨(some 4), .faddr 0 (.t 2), none⟩,
    ⟨(some 5), .load none (.t 4), none⟩,
    ⟨(some 6), .faddr 0 (.t 1), none⟩,
    ⟨(some 7), .load none (.t 6), none⟩,
    ⟨(some 8), .bin .eql .no (.t 5) (.t 7), none⟩,
    ⟨(some 3), .mov (.t 8), none⟩])
  (.ret))
def fun65 : SFun := ⟨code65, 9, [.tmp 3]⟩

/- 66 slices.stableCmpFunc[int] params #[30, 3, 67] results #[] -/
def ann66 : Ann := ⟨[], [(2, [10, 20, 21, 22]), (3, [11, 12, 13]), (4, [7, 14, 15, 16, 17, 18]), (5, [19]), (6, [8, 11, 12, 13]), (7, [7, 23, 24, 25, 26, 27, 61, 62]), (8, [28, 29, 30]), (9, [31, 32, 45, 46, 47, 48]), (10, [33, 34, 35]), (11, [7, 36, 37, 38, 39, 40, 41, 42, 43]), (12, [44]), (13, [8, 33, 34, 35]), (14, [49, 50, 51]), (15, [52, 53, 54]), (16, [7, 9, 52, 53, 54, 55, 56, 57, 58, 59, 60])]⟩
def lp66_0 : SCode :=
  .seq (.seq (.region [10, 20, 21, 22] [⟨(some 11), .mov (.t 8), none⟩,
    ⟨(some 12), .mov (.t 1), none⟩,
    ⟨(some 13), .bin .leq .no (.t 11) (.t 12), none⟩])
  (.cond (.t 13)
    (.skip)
    (.exit 0)))
  (.block 1 (.seq (.region [11, 12, 13] [⟨(some 14), .mov (.t 0), none⟩,
      ⟨(some 15), .mov (.t 7), none⟩,
      ⟨(some 16), .mov (.t 8), none⟩,
      ⟨(some 17), .mov (.t 2), none⟩,
      ⟨(some 18), .call 85 [(.t 14), (.t 15), (.t 16), (.t 17)], none⟩])
    (.seq (.region [7, 14, 15, 16, 17, 18] [⟨(some 19), .mov (.t 8), none⟩,
      ⟨(some 7), .mov (.t 19), none⟩])
    (.region [19] [⟨(some 20), .mov (.t 8), none⟩,
      ⟨(some 21), .mov (.t 6), none⟩,
      ⟨(some 22), .bin .add .no (.t 20) (.t 21), none⟩,
      ⟨(some 8), .mov (.t 22), none⟩]))))
def lp66_1 : SCode :=
  .seq (.seq (.region [31, 32, 45, 46, 47, 48] [⟨(some 33), .mov (.t 8), none⟩,
    ⟨(some 34), .mov (.t 1), none⟩,
    ⟨(some 35), .bin .leq .no (.t 33) (.t 34), none⟩])
  (.cond (.t 35)
    (.skip)
    (.exit 4)))
  (.block 5 (.seq (.region [33, 34, 35] [⟨(some 36), .mov (.t 0), none⟩,
      ⟨(some 37), .mov (.t 7), none⟩,
      ⟨(some 38), .mov (.t 7), none⟩,
      ⟨(some 39), .mov (.t 6), none⟩,
      ⟨(some 40), .bin .add .no (.t 38) (.t 39), none⟩,
      ⟨(some 41), .mov (.t 8), none⟩,
      ⟨(some 42), .mov (.t 2), none⟩,
      ⟨(some 43), .call 86 [(.t 36), (.t 37), (.t 40), (.t 41), (.t 42)], none⟩])
    (.seq (.region [7, 36, 37, 38, 39, 40, 41, 42, 43] [⟨(some 44), .mov (.t 8), none⟩,
      ⟨(some 7), .mov (.t 44), none⟩])
    (.region [44] [⟨(some 45), .mov (.t 8), none⟩,
      ⟨(some 46), .mov (.t 6), none⟩,
      ⟨(some 47), .bin .mul .no (.k (.c (.int .i64 2))) (.t 46), none⟩,
      ⟨(some 48), .bin .add .no (.t 45) (.t 47), none⟩,
      ⟨(some 8), .mov (.t 48), none⟩]))))
def lp66_2 : SCode :=
  .seq (.seq (.region [7, 23, 24, 25, 26, 27, 61, 62] [⟨(some 28), .mov (.t 6), none⟩,
    ⟨(some 29), .mov (.t 1), none⟩,
    ⟨(some 30), .bin .lss .no (.t 28) (.t 29), none⟩])
  (.cond (.t 30)
    (.skip)
    (.exit 2)))
  (.block 3 (.seq (.region [28, 29, 30] [⟨(some 31), .mov (.t 6), none⟩,
      ⟨(some 32), .bin .mul .no (.k (.c (.int .i64 2))) (.t 31), none⟩,
      ⟨(some 7), .mov (.k (.c (.int .i64 0))), none⟩,
      ⟨(some 8), .mov (.t 32), none⟩])
    (.seq (.block 4 (.loop lp66_1))
    (.seq (.seq (.region [8, 33, 34, 35] [⟨(some 49), .mov (.t 7), none⟩,
      ⟨(some 50), .mov (.t 6), none⟩,
      ⟨(some 51), .bin .add .no (.t 49) (.t 50), none⟩,
      ⟨(some 9), .mov (.t 51), none⟩])
    (.seq (.region [49, 50, 51] [⟨(some 52), .mov (.t 9), none⟩,
      ⟨(some 53), .mov (.t 1), none⟩,
      ⟨(some 54), .bin .lss .no (.t 52) (.t 53), none⟩])
    (.cond (.t 54)
      (.region [52, 53, 54] [⟨(some 55), .mov (.t 0), none⟩,
        ⟨(some 56), .mov (.t 7), none⟩,
        ⟨(some 57), .mov (.t 9), none⟩,
        ⟨(some 58), .mov (.t 1), none⟩,
        ⟨(some 59), .mov (.t 2), none⟩,
        ⟨(some 60), .call 86 [(.t 55), (.t 56), (.t 57), (.t 58), (.t 59)], none⟩])
      (.skip))))
    (.region [7, 9, 52, 53, 54, 55, 56, 57, 58, 59, 60] [⟨(some 61), .mov (.t 6), none⟩,
      ⟨(some 62), .bin .mul .no (.t 61) (.k (.c (.int .i64 2))), none⟩,
      ⟨(some 6), .mov (.t 62), none⟩])))))
def code66 : SCode :=
  .seq (.region [] [⟨(some 6), .mov (.k (.c (.int .i64 20))), none⟩])
  (.seq (.region [] [⟨(some 10), .mov (.t 6), none⟩,
    ⟨(some 7), .mov (.k (.c (.int .i64 0))), none⟩,
    ⟨(some 8), .mov (.t 10), none⟩])
  (.seq (.block 0 (.loop lp66_0))
  (.seq (.region [8, 11, 12, 13] [⟨(some 23), .mov (.t 0), none⟩,
    ⟨(some 24), .mov (.t 7), none⟩,
    ⟨(some 25), .mov (.t 1), none⟩,
    ⟨(some 26), .mov (.t 2), none⟩,
    ⟨(some 27), .call 85 [(.t 23), (.t 24), (.t 25), (.t 26)], none⟩])
  (.block 2 (.loop lp66_2)))))
def fun66 : SFun := ⟨code66, 63, []⟩

/- 84 slices.IndexFunc[[]bowline/split.Ask,bowline/split.Ask] params #[22, 28] results #[3] -/
def ann84 : Ann := ⟨[], [(1, [4]), (2, [6, 18]), (3, [9]), (4, [10]), (5, [0, 1, 7, 8, 11, 12, 13, 14, 15, 16]), (6, [5, 11, 12, 13, 14, 15, 16]), (7, [0, 1, 7, 8, 9])]⟩
def lp84_0 : SCode :=
  .seq (.region [6, 18] [⟨(some 9), .bin .lss .no (.t 8) (.t 7), none⟩])
  (.seq (.cond (.t 9)
    (.skip)
    (.exit 0))
  (.seq (.block 1 (.seq (.region [9] [⟨(some 10), .mov (.t 8), none⟩,
      ⟨(some 5), .mov (.t 10), none⟩])
    (.seq (.region [10] [⟨(some 11), .mov (.t 1), none⟩,
      ⟨(some 12), .mov (.t 0), none⟩,
      ⟨(some 13), .mov (.t 5), none⟩,
      ⟨(some 14), .iaddr 4 none (.t 12) (.t 13), none⟩,
      ⟨(some 15), .load (some 4) (.t 14), none⟩,
      ⟨(some 16), .callv (.t 11) [(.t 15)], none⟩])
    (.cond (.t 16)
      (.seq (.region [0, 1, 7, 8, 11, 12, 13, 14, 15, 16] [⟨(some 17), .mov (.t 5), none⟩,
        ⟨(some 4), .mov (.t 17), none⟩])
      (.ret))
      (.skip)))))
  (.region [5, 11, 12, 13, 14, 15, 16] [⟨(some 18), .bin .add .no (.t 8) (.k (.c (.int .i64 1))), none⟩,
    ⟨(some 8), .mov (.t 18), none⟩])))
def code84 : SCode :=
  .seq (.region [] [⟨(some 4), .mov (.k (.c (.int .i64 0))), none⟩])
  (.seq (.seq (.region [4] [⟨(some 6), .mov (.t 0), none⟩,
    ⟨(some 7), .len .sl (.t 6), none⟩,
    ⟨(some 8), .mov (.k (.c (.int .i64 0))), none⟩])
  (.block 0 (.loop lp84_0)))
  (.seq (.region [0, 1, 7, 8, 9] [⟨(some 4), .mov (.k (.c (.int .i64 (-1)))), none⟩])
  (.ret)))
def fun84 : SFun := ⟨code84, 19, [.tmp 4]⟩

/- 85 slices.insertionSortCmpFunc[int] params #[30, 3, 3, 67] results #[] -/
def ann85 : Ann := ⟨[], [(1, [10, 11, 15, 16]), (3, [12, 13, 14]), (4, [17, 35, 36]), (6, [18, 19, 20, 21, 22, 23, 24, 25, 26, 27, 28, 29, 30, 31, 32, 33, 34]), (5, [37, 38, 39, 40, 41, 42, 43, 44, 45, 46, 47, 48, 49, 50, 51, 52]), (2, [9, 18, 19, 20, 21, 22, 23, 24, 25, 26, 27, 28, 29, 30, 31, 32, 33, 34])]⟩
def lp85_0 : SCode :=
  .seq (.seq (.drawn [17, 35, 36] [⟨0, ⟨(some 18), .mov (.t 9), none⟩, []⟩,
    ⟨1, ⟨(some 19), .mov (.t 1), none⟩, []⟩,
    ⟨2, ⟨(some 20), .bin .gtr .no (.t 18) (.t 19), none⟩, []⟩,
    ⟨3, ⟨(some 21), .mov (.t 20), none⟩, []⟩,
    ⟨4, ⟨(some 22), .mov (.t 3), some (21, true)⟩, []⟩,
    ⟨5, ⟨(some 23), .mov (.t 0), some (21, true)⟩, []⟩,
    ⟨6, ⟨(some 24), .mov (.t 9), some (21, true)⟩, []⟩,
    ⟨7, ⟨(some 25), .iaddr 1 none (.t 23) (.t 24), some (21, true)⟩, []⟩,
    ⟨8, ⟨(some 26), .load none (.t 25), some (21, true)⟩, []⟩,
    ⟨9, ⟨(some 27), .mov (.t 0), some (21, true)⟩, []⟩,
    ⟨10, ⟨(some 28), .mov (.t 9), some (21, true)⟩, []⟩,
    ⟨11, ⟨(some 29), .bin .sub .no (.t 28) (.k (.c (.int .i64 1))), some (21, true)⟩, []⟩,
    ⟨12, ⟨(some 30), .iaddr 1 none (.t 27) (.t 29), some (21, true)⟩, []⟩,
    ⟨13, ⟨(some 31), .load none (.t 30), some (21, true)⟩, []⟩,
    ⟨14, ⟨(some 32), .callv (.t 22) [(.t 26), (.t 31)], some (21, true)⟩, []⟩,
    ⟨15, ⟨(some 33), .bin .lss .no (.t 32) (.k (.c (.int .i64 0))), some (21, true)⟩, []⟩,
    ⟨16, ⟨(some 34), .pick (.t 21) (.t 33) (.k (.c (.bool false))), none⟩, []⟩])
  (.cond (.t 34)
    (.skip)
    (.exit 2)))
  (.seq (.block 3 (.drawn [18, 19, 20, 21, 22, 23, 24, 25, 26, 27, 28, 29, 30, 31, 32, 33, 34] [⟨0, ⟨(some 37), .mov (.t 0), none⟩, []⟩,
      ⟨1, ⟨(some 38), .mov (.t 9), none⟩, []⟩,
      ⟨2, ⟨(some 39), .mov (.t 0), none⟩, []⟩,
      ⟨3, ⟨(some 40), .mov (.t 9), none⟩, []⟩,
      ⟨4, ⟨(some 41), .bin .sub .no (.t 40) (.k (.c (.int .i64 1))), none⟩, []⟩,
      ⟨5, ⟨(some 42), .mov (.t 0), none⟩, []⟩,
      ⟨6, ⟨(some 43), .mov (.t 9), none⟩, []⟩,
      ⟨7, ⟨(some 44), .bin .sub .no (.t 43) (.k (.c (.int .i64 1))), none⟩, []⟩,
      ⟨8, ⟨(some 45), .iaddr 1 none (.t 42) (.t 44), none⟩, []⟩,
      ⟨9, ⟨(some 46), .load none (.t 45), none⟩, []⟩,
      ⟨10, ⟨(some 47), .mov (.t 0), none⟩, []⟩,
      ⟨11, ⟨(some 48), .mov (.t 9), none⟩, []⟩,
      ⟨12, ⟨(some 49), .iaddr 1 none (.t 47) (.t 48), none⟩, []⟩,
      ⟨13, ⟨(some 50), .load none (.t 49), none⟩, []⟩,
      ⟨14, ⟨(some 51), .iaddr 1 none (.t 37) (.t 38), none⟩, []⟩,
      ⟨15, ⟨none, .store none (.t 51) (.t 46), none⟩, []⟩,
      ⟨16, ⟨(some 52), .iaddr 1 none (.t 39) (.t 41), none⟩, []⟩,
      ⟨17, ⟨none, .store none (.t 52) (.t 50), none⟩, []⟩]))
  (.region [37, 38, 39, 40, 41, 42, 43, 44, 45, 46, 47, 48, 49, 50, 51, 52] [⟨(some 35), .mov (.t 9), none⟩,
    ⟨(some 36), .bin .sub .no (.t 35) (.k (.c (.int .i64 1))), none⟩,
    ⟨(some 9), .mov (.t 36), none⟩]))
def lp85_1 : SCode :=
  .seq (.seq (.region [10, 11, 15, 16] [⟨(some 12), .mov (.t 8), none⟩,
    ⟨(some 13), .mov (.t 2), none⟩,
    ⟨(some 14), .bin .lss .no (.t 12) (.t 13), none⟩])
  (.cond (.t 14)
    (.skip)
    (.exit 0)))
  (.seq (.block 1 (.seq (.region [12, 13, 14] [⟨(some 17), .mov (.t 8), none⟩,
      ⟨(some 9), .mov (.t 17), none⟩])
    (.block 2 (.loop lp85_0))))
  (.region [9, 18, 19, 20, 21, 22, 23, 24, 25, 26, 27, 28, 29, 30, 31, 32, 33, 34] [⟨(some 15), .mov (.t 8), none⟩,
    ⟨(some 16), .bin .add .no (.t 15) (.k (.c (.int .i64 1))), none⟩,
    ⟨(some 8), .mov (.t 16), none⟩]))
def code85 : SCode :=
  .seq (.region [] [⟨(some 10), .mov (.t 1), none⟩,
    ⟨(some 11), .bin .add .no (.t 10) (.k (.c (.int .i64 1))), none⟩,
    ⟨(some 8), .mov (.t 11), none⟩])
  (.block 0 (.loop lp85_1))
def fun85 : SFun := ⟨code85, 53, []⟩

/- 86 slices.symMergeCmpFunc[int] params #[30, 3, 3, 3, 67] results #[] -/
def ann86 : Ann := ⟨[], [(1, [25, 26, 27, 28]), (2, [2, 29]), (3, [3, 12, 30, 51, 52, 53]), (4, [31, 32, 33]), (5, [34, 35, 36, 37, 38, 39]), (6, [10, 40, 41, 42, 43, 44, 45, 46, 47, 48, 49, 50]), (7, [11, 40, 41, 42, 43, 44, 45, 46, 47, 48, 49, 50]), (8, [4, 11, 31, 32, 33]), (9, [1, 54, 59, 60]), (11, [55, 56, 57, 58]), (10, [61, 62, 63, 64, 65, 66, 67, 68, 69, 70, 71, 72, 73, 74, 75, 76]), (12, [25, 26, 27, 28]), (13, [3, 77, 78, 79, 80]), (14, [1, 81]), (15, [16, 82, 104, 105, 106]), (16, [83, 84, 85]), (17, [86, 87, 88, 89, 90, 91]), (18, [14, 92, 93, 94, 95, 96, 97, 98, 99, 100, 101, 102, 103]), (19, [15, 92, 93, 94, 95, 96, 97, 98, 99, 100, 101, 102, 103]), (20, [4, 15, 83, 84, 85]), (21, [2, 107, 111, 112]), (23, [108, 109, 110]), (22, [113, 114, 115, 116, 117, 118, 119, 120, 121, 122, 123, 124, 125, 126, 127, 128]), (24, [77, 78, 79, 80]), (25, [129, 130, 131, 132, 133, 134]), (26, [135, 136, 137]), (27, [20, 21]), (28, [138, 139, 140]), (29, [141, 142, 143]), (30, [138, 139, 140]), (31, [145]), (32, [144, 146]), (33, [23, 147, 148, 172, 173, 174]), (34, [149, 150, 151]), (35, [152, 153, 154, 155, 156, 157]), (36, [20, 158, 159, 160, 161, 162, 163, 164, 165, 166, 167, 168, 169, 170, 171]), (37, [21, 158, 159, 160, 161, 162, 163, 164, 165, 166, 167, 168, 169, 170, 171]), (38, [21, 22, 149, 150, 151]), (39, [19, 175, 176, 177]), (40, [178, 179, 180, 181, 182, 183, 184, 185]), (41, [2, 178, 179, 180, 181, 182, 183, 184, 185, 186, 187, 188, 189, 190, 191]), (42, [192, 193, 194, 195, 196, 197, 198, 199]), (43, [1, 20, 192, 193, 194, 195, 196, 197, 198, 199, 200, 201, 202, 203, 204, 205]), (44, [206, 207, 208, 209, 210, 211, 212, 213])]⟩
def lp86_0 : SCode :=
  .seq (.seq (.region [3, 12, 30, 51, 52, 53] [⟨(some 31), .mov (.t 10), none⟩,
    ⟨(some 32), .mov (.t 11), none⟩,
    ⟨(some 33), .bin .lss .no (.t 31) (.t 32), none⟩])
  (.cond (.t 33)
    (.skip)
    (.exit 0)))
  (.block 1 (.seq (.region [31, 32, 33] [⟨(some 34), .mov (.t 10), none⟩,
      ⟨(some 35), .mov (.t 11), none⟩,
      ⟨(some 36), .bin .add .no (.t 34) (.t 35), none⟩,
      ⟨(some 37), .conv (.int .u64) (.t 36), none⟩,
      ⟨(some 38), .bin .shr .no (.t 37) (.k (.c (.int .u64 1))), none⟩,
      ⟨(some 39), .conv (.int .i64) (.t 38), none⟩,
      ⟨(some 12), .mov (.t 39), none⟩])
    (.seq (.drawn [34, 35, 36, 37, 38, 39] [⟨0, ⟨(some 40), .mov (.t 4), none⟩, []⟩,
      ⟨1, ⟨(some 41), .mov (.t 0), none⟩, []⟩,
      ⟨2, ⟨(some 42), .mov (.t 12), none⟩, []⟩,
      ⟨3, ⟨(some 43), .iaddr 1 none (.t 41) (.t 42), none⟩, []⟩,
      ⟨4, ⟨(some 44), .load none (.t 43), none⟩, []⟩,
      ⟨5, ⟨(some 45), .mov (.t 0), none⟩, []⟩,
      ⟨6, ⟨(some 46), .mov (.t 1), none⟩, []⟩,
      ⟨7, ⟨(some 47), .iaddr 1 none (.t 45) (.t 46), none⟩, []⟩,
      ⟨8, ⟨(some 48), .load none (.t 47), none⟩, []⟩,
      ⟨9, ⟨(some 49), .callv (.t 40) [(.t 44), (.t 48)], none⟩, []⟩,
      ⟨10, ⟨(some 50), .bin .lss .no (.t 49) (.k (.c (.int .i64 0))), none⟩, []⟩])
    (.cond (.t 50)
      (.region [10, 40, 41, 42, 43, 44, 45, 46, 47, 48, 49, 50] [⟨(some 51), .mov (.t 12), none⟩,
        ⟨(some 52), .bin .add .no (.t 51) (.k (.c (.int .i64 1))), none⟩,
        ⟨(some 10), .mov (.t 52), none⟩])
      (.region [11, 40, 41, 42, 43, 44, 45, 46, 47, 48, 49, 50] [⟨(some 53), .mov (.t 12), none⟩,
        ⟨(some 11), .mov (.t 53), none⟩])))))
def lp86_1 : SCode :=
  .seq (.seq (.region [1, 54, 59, 60] [⟨(some 55), .mov (.t 13), none⟩,
    ⟨(some 56), .mov (.t 10), none⟩,
    ⟨(some 57), .bin .sub .no (.t 56) (.k (.c (.int .i64 1))), none⟩,
    ⟨(some 58), .bin .lss .no (.t 55) (.t 57), none⟩])
  (.cond (.t 58)
    (.skip)
    (.exit 2)))
  (.seq (.block 3 (.drawn [55, 56, 57, 58] [⟨0, ⟨(some 61), .mov (.t 0), none⟩, []⟩,
      ⟨1, ⟨(some 62), .mov (.t 13), none⟩, []⟩,
      ⟨2, ⟨(some 63), .mov (.t 0), none⟩, []⟩,
      ⟨3, ⟨(some 64), .mov (.t 13), none⟩, []⟩,
      ⟨4, ⟨(some 65), .bin .add .no (.t 64) (.k (.c (.int .i64 1))), none⟩, []⟩,
      ⟨5, ⟨(some 66), .mov (.t 0), none⟩, []⟩,
      ⟨6, ⟨(some 67), .mov (.t 13), none⟩, []⟩,
      ⟨7, ⟨(some 68), .bin .add .no (.t 67) (.k (.c (.int .i64 1))), none⟩, []⟩,
      ⟨8, ⟨(some 69), .iaddr 1 none (.t 66) (.t 68), none⟩, []⟩,
      ⟨9, ⟨(some 70), .load none (.t 69), none⟩, []⟩,
      ⟨10, ⟨(some 71), .mov (.t 0), none⟩, []⟩,
      ⟨11, ⟨(some 72), .mov (.t 13), none⟩, []⟩,
      ⟨12, ⟨(some 73), .iaddr 1 none (.t 71) (.t 72), none⟩, []⟩,
      ⟨13, ⟨(some 74), .load none (.t 73), none⟩, []⟩,
      ⟨14, ⟨(some 75), .iaddr 1 none (.t 61) (.t 62), none⟩, []⟩,
      ⟨15, ⟨none, .store none (.t 75) (.t 70), none⟩, []⟩,
      ⟨16, ⟨(some 76), .iaddr 1 none (.t 63) (.t 65), none⟩, []⟩,
      ⟨17, ⟨none, .store none (.t 76) (.t 74), none⟩, []⟩]))
  (.region [61, 62, 63, 64, 65, 66, 67, 68, 69, 70, 71, 72, 73, 74, 75, 76] [⟨(some 59), .mov (.t 13), none⟩,
    ⟨(some 60), .bin .add .no (.t 59) (.k (.c (.int .i64 1))), none⟩,
    ⟨(some 13), .mov (.t 60), none⟩]))
def lp86_2 : SCode :=
  .seq (.seq (.region [16, 82, 104, 105, 106] [⟨(some 83), .mov (.t 14), none⟩,
    ⟨(some 84), .mov (.t 15), none⟩,
    ⟨(some 85), .bin .lss .no (.t 83) (.t 84), none⟩])
  (.cond (.t 85)
    (.skip)
    (.exit 4)))
  (.block 5 (.seq (.region [83, 84, 85] [⟨(some 86), .mov (.t 14), none⟩,
      ⟨(some 87), .mov (.t 15), none⟩,
      ⟨(some 88), .bin .add .no (.t 86) (.t 87), none⟩,
      ⟨(some 89), .conv (.int .u64) (.t 88), none⟩,
      ⟨(some 90), .bin .shr .no (.t 89) (.k (.c (.int .u64 1))), none⟩,
      ⟨(some 91), .conv (.int .i64) (.t 90), none⟩,
      ⟨(some 16), .mov (.t 91), none⟩])
    (.seq (.drawn [86, 87, 88, 89, 90, 91] [⟨0, ⟨(some 92), .mov (.t 4), none⟩, []⟩,
      ⟨1, ⟨(some 93), .mov (.t 0), none⟩, []⟩,
      ⟨2, ⟨(some 94), .mov (.t 2), none⟩, []⟩,
      ⟨3, ⟨(some 95), .iaddr 1 none (.t 93) (.t 94), none⟩, []⟩,
      ⟨4, ⟨(some 96), .load none (.t 95), none⟩, []⟩,
      ⟨5, ⟨(some 97), .mov (.t 0), none⟩, []⟩,
      ⟨6, ⟨(some 98), .mov (.t 16), none⟩, []⟩,
      ⟨7, ⟨(some 99), .iaddr 1 none (.t 97) (.t 98), none⟩, []⟩,
      ⟨8, ⟨(some 100), .load none (.t 99), none⟩, []⟩,
      ⟨9, ⟨(some 101), .callv (.t 92) [(.t 96), (.t 100)], none⟩, []⟩,
      ⟨10, ⟨(some 102), .bin .lss .no (.t 101) (.k (.c (.int .i64 0))), none⟩, []⟩,
      ⟨11, ⟨(some 103), .un .not (.t 102), none⟩, []⟩])
    (.cond (.t 103)
      (.region [14, 92, 93, 94, 95, 96, 97, 98, 99, 100, 101, 102, 103] [⟨(some 104), .mov (.t 16), none⟩,
        ⟨(some 105), .bin .add .no (.t 104) (.k (.c (.int .i64 1))), none⟩,
        ⟨(some 14), .mov (.t 105), none⟩])
      (.region [15, 92, 93, 94, 95, 96, 97, 98, 99, 100, 101, 102, 103] [⟨(some 106), .mov (.t 16), none⟩,
        ⟨(some 15), .mov (.t 106), none⟩])))))
def lp86_3 : SCode :=
  .seq (.seq (.region [2, 107, 111, 112] [⟨(some 108), .mov (.t 17), none⟩,
    ⟨(some 109), .mov (.t 14), none⟩,
    ⟨(some 110), .bin .gtr .no (.t 108) (.t 109), none⟩])
  (.cond (.t 110)
    (.skip)
    (.exit 6)))
  (.seq (.block 7 (.drawn [108, 109, 110] [⟨0, ⟨(some 113), .mov (.t 0), none⟩, []⟩,
      ⟨1, ⟨(some 114), .mov (.t 17), none⟩, []⟩,
      ⟨2, ⟨(some 115), .mov (.t 0), none⟩, []⟩,
      ⟨3, ⟨(some 116), .mov (.t 17), none⟩, []⟩,
      ⟨4, ⟨(some 117), .bin .sub .no (.t 116) (.k (.c (.int .i64 1))), none⟩, []⟩,
      ⟨5, ⟨(some 118), .mov (.t 0), none⟩, []⟩,
      ⟨6, ⟨(some 119), .mov (.t 17), none⟩, []⟩,
      ⟨7, ⟨(some 120), .bin .sub .no (.t 119) (.k (.c (.int .i64 1))), none⟩, []⟩,
      ⟨8, ⟨(some 121), .iaddr 1 none (.t 118) (.t 120), none⟩, []⟩,
      ⟨9, ⟨(some 122), .load none (.t 121), none⟩, []⟩,
      ⟨10, ⟨(some 123), .mov (.t 0), none⟩, []⟩,
      ⟨11, ⟨(some 124), .mov (.t 17), none⟩, []⟩,
      ⟨12, ⟨(some 125), .iaddr 1 none (.t 123) (.t 124), none⟩, []⟩,
      ⟨13, ⟨(some 126), .load none (.t 125), none⟩, []⟩,
      ⟨14, ⟨(some 127), .iaddr 1 none (.t 113) (.t 114), none⟩, []⟩,
      ⟨15, ⟨none, .store none (.t 127) (.t 122), none⟩, []⟩,
      ⟨16, ⟨(some 128), .iaddr 1 none (.t 115) (.t 117), none⟩, []⟩,
      ⟨17, ⟨none, .store none (.t 128) (.t 126), none⟩, []⟩]))
  (.region [113, 114, 115, 116, 117, 118, 119, 120, 121, 122, 123, 124, 125, 126, 127, 128] [⟨(some 111), .mov (.t 17), none⟩,
    ⟨(some 112), .bin .sub .no (.t 111) (.k (.c (.int .i64 1))), none⟩,
    ⟨(some 17), .mov (.t 112), none⟩]))
def lp86_4 : SCode :=
  .seq (.seq (.region [23, 147, 148, 172, 173, 174] [⟨(some 149), .mov (.t 20), none⟩,
    ⟨(some 150), .mov (.t 21), none⟩,
    ⟨(some 151), .bin .lss .no (.t 149) (.t 150), none⟩])
  (.cond (.t 151)
    (.skip)
    (.exit 8)))
  (.block 9 (.seq (.region [149, 150, 151] [⟨(some 152), .mov (.t 20), none⟩,
      ⟨(some 153), .mov (.t 21), none⟩,
      ⟨(some 154), .bin .add .no (.t 152) (.t 153), none⟩,
      ⟨(some 155), .conv (.int .u64) (.t 154), none⟩,
      ⟨(some 156), .bin .shr .no (.t 155) (.k (.c (.int .u64 1))), none⟩,
      ⟨(some 157), .conv (.int .i64) (.t 156), none⟩,
      ⟨(some 23), .mov (.t 157), none⟩])
    (.seq (.drawn [152, 153, 154, 155, 156, 157] [⟨0, ⟨(some 158), .mov (.t 4), none⟩, []⟩,
      ⟨1, ⟨(some 159), .mov (.t 0), none⟩, []⟩,
      ⟨2, ⟨(some 160), .mov (.t 22), none⟩, []⟩,
      ⟨3, ⟨(some 161), .mov (.t 23), none⟩, []⟩,
      ⟨4, ⟨(some 162), .bin .sub .no (.t 160) (.t 161), none⟩, []⟩,
      ⟨5, ⟨(some 163), .iaddr 1 none (.t 159) (.t 162), none⟩, []⟩,
      ⟨6, ⟨(some 164), .load none (.t 163), none⟩, []⟩,
      ⟨7, ⟨(some 165), .mov (.t 0), none⟩, []⟩,
      ⟨8, ⟨(some 166), .mov (.t 23), none⟩, []⟩,
      ⟨9, ⟨(some 167), .iaddr 1 none (.t 165) (.t 166), none⟩, []⟩,
      ⟨10, ⟨(some 168), .load none (.t 167), none⟩, []⟩,
      ⟨11, ⟨(some 169), .callv (.t 158) [(.t 164), (.t 168)], none⟩, []⟩,
      ⟨12, ⟨(some 170), .bin .lss .no (.t 169) (.k (.c (.int .i64 0))), none⟩, []⟩,
      ⟨13, ⟨(some 171), .un .not (.t 170), none⟩, []⟩])
    (.cond (.t 171)
      (.region [20, 158, 159, 160, 161, 162, 163, 164, 165, 166, 167, 168, 169, 170, 171] [⟨(some 172), .mov (.t 23), none⟩,
        ⟨(some 173), .bin .add .no (.t 172) (.k (.c (.int .i64 1))), none⟩,
        ⟨(some 20), .mov (.t 173), none⟩])
      (.region [21, 158, 159, 160, 161, 162, 163, 164, 165, 166, 167, 168, 169, 170, 171] [⟨(some 174), .mov (.t 23), none⟩,
        ⟨(some 21), .mov (.t 174), none⟩])))))
def code86 : SCode :=
  .seq (.seq (.region [] [⟨(some 25), .mov (.t 2), none⟩,
    ⟨(some 26), .mov (.t 1), none⟩,
    ⟨(some 27), .bin .sub .no (.t 25) (.t 26), none⟩,
    ⟨(some 28), .bin .eql .no (.t 27) (.k (.c (.int .i64 1))), none⟩])
  (.cond (.t 28)
    (.seq (.region [25, 26, 27, 28] [⟨(some 29), .mov (.t 2), none⟩,
      ⟨(some 10), .mov (.t 29), none⟩])
    (.seq (.region [2, 29] [⟨(some 30), .mov (.t 3), none⟩,
      ⟨(some 11), .mov (.t 30), none⟩])
    (.seq (.block 0 (.loop lp86_0))
    (.seq (.seq (.region [4, 11, 31, 32, 33] [⟨(some 54), .mov (.t 1), none⟩,
      ⟨(some 13), .mov (.t 54), none⟩])
    (.block 2 (.loop lp86_1)))
    (.ret)))))
    (.skip)))
  (.seq (.seq (.region [25, 26, 27, 28] [⟨(some 77), .mov (.t 3), none⟩,
    ⟨(some 78), .mov (.t 2), none⟩,
    ⟨(some 79), .bin .sub .no (.t 77) (.t 78), none⟩,
    ⟨(some 80), .bin .eql .no (.t 79) (.k (.c (.int .i64 1))), none⟩])
  (.cond (.t 80)
    (.seq (.region [3, 77, 78, 79, 80] [⟨(some 81), .mov (.t 1), none⟩,
      ⟨(some 14), .mov (.t 81), none⟩])
    (.seq (.region [1, 81] [⟨(some 82), .mov (.t 2), none⟩,
      ⟨(some 15), .mov (.t 82), none⟩])
    (.seq (.block 4 (.loop lp86_2))
    (.seq (.seq (.region [4, 15, 83, 84, 85] [⟨(some 107), .mov (.t 2), none⟩,
      ⟨(some 17), .mov (.t 107), none⟩])
    (.block 6 (.loop lp86_3)))
    (.ret)))))
    (.skip)))
  (.seq (.region [77, 78, 79, 80] [⟨(some 129), .mov (.t 1), none⟩,
    ⟨(some 130), .mov (.t 3), none⟩,
    ⟨(some 131), .bin .add .no (.t 129) (.t 130), none⟩,
    ⟨(some 132), .conv (.int .u64) (.t 131), none⟩,
    ⟨(some 133), .bin .shr .no (.t 132) (.k (.c (.int .u64 1))), none⟩,
    ⟨(some 134), .conv (.int .i64) (.t 133), none⟩,
    ⟨(some 18), .mov (.t 134), none⟩])
  (.seq (.region [129, 130, 131, 132, 133, 134] [⟨(some 135), .mov (.t 18), none⟩,
    ⟨(some 136), .mov (.t 2), none⟩,
    ⟨(some 137), .bin .add .no (.t 135) (.t 136), none⟩,
    ⟨(some 19), .mov (.t 137), none⟩])
  (.seq (.region [135, 136, 137] [⟨(some 20), .mov (.k (.c (.int .i64 0))), none⟩,
    ⟨(some 21), .mov (.k (.c (.int .i64 0))), none⟩])
  (.seq (.seq (.region [20, 21] [⟨(some 138), .mov (.t 2), none⟩,
    ⟨(some 139), .mov (.t 18), none⟩,
    ⟨(some 140), .bin .gtr .no (.t 138) (.t 139), none⟩])
  (.cond (.t 140)
    (.seq (.region [138, 139, 140] [⟨(some 141), .mov (.t 19), none⟩,
      ⟨(some 142), .mov (.t 3), none⟩,
      ⟨(some 143), .bin .sub .no (.t 141) (.t 142), none⟩,
      ⟨(some 20), .mov (.t 143), none⟩])
    (.region [141, 142, 143] [⟨(some 144), .mov (.t 18), none⟩,
      ⟨(some 21), .mov (.t 144), none⟩]))
    (.seq (.region [138, 139, 140] [⟨(some 145), .mov (.t 1), none⟩,
      ⟨(some 20), .mov (.t 145), none⟩])
    (.region [145] [⟨(some 146), .mov (.t 2), none⟩,
      ⟨(some 21), .mov (.t 146), none⟩]))))
  (.seq (.region [144, 146] [⟨(some 147), .mov (.t 19), none⟩,
    ⟨(some 148), .bin .sub .no (.t 147) (.k (.c (.int .i64 1))), none⟩,
    ⟨(some 22), .mov (.t 148), none⟩])
  (.seq (.block 8 (.loop lp86_4))
  (.seq (.region [21, 22, 149, 150, 151] [⟨(some 175), .mov (.t 19), none⟩,
    ⟨(some 176), .mov (.t 20), none⟩,
    ⟨(some 177), .bin .sub .no (.t 175) (.t 176), none⟩,
    ⟨(some 24), .mov (.t 177), none⟩])
  (.seq (.seq (.region [19, 175, 176, 177] [⟨(some 178), .mov (.t 20), none⟩,
    ⟨(some 179), .mov (.t 2), none⟩,
    ⟨(some 180), .bin .lss .no (.t 178) (.t 179), none⟩,
    ⟨(some 181), .mov (.t 180), none⟩,
    ⟨(some 182), .mov (.t 2), some (181, true)⟩,
    ⟨(some 183), .mov (.t 24), some (181, true)⟩,
    ⟨(some 184), .bin .lss .no (.t 182) (.t 183), some (181, true)⟩,
    ⟨(some 185), .pick (.t 181) (.t 184) (.k (.c (.bool false))), none⟩])
  (.cond (.t 185)
    (.region [178, 179, 180, 181, 182, 183, 184, 185] [⟨(some 186), .mov (.t 0), none⟩,
      ⟨(some 187), .mov (.t 20), none⟩,
      ⟨(some 188), .mov (.t 2), none⟩,
      ⟨(some 189), .mov (.t 24), none⟩,
      ⟨(some 190), .mov (.t 4), none⟩,
      ⟨(some 191), .call 92 [(.t 186), (.t 187), (.t 188), (.t 189), (.t 190)], none⟩])
    (.skip)))
  (.seq (.seq (.region [2, 178, 179, 180, 181, 182, 183, 184, 185, 186, 187, 188, 189, 190, 191] [⟨(some 192), .mov (.t 1), none⟩,
    ⟨(some 193), .mov (.t 20), none⟩,
    ⟨(some 194), .bin .lss .no (.t 192) (.t 193), none⟩,
    ⟨(some 195), .mov (.t 194), none⟩,
    ⟨(some 196), .mov (.t 20), some (195, true)⟩,
    ⟨(some 197), .mov (.t 18), some (195, true)⟩,
    ⟨(some 198), .bin .lss .no (.t 196) (.t 197), some (195, true)⟩,
    ⟨(some 199), .pick (.t 195) (.t 198) (.k (.c (.bool false))), none⟩])
  (.cond (.t 199)
    (.region [192, 193, 194, 195, 196, 197, 198, 199] [⟨(some 200), .mov (.t 0), none⟩,
      ⟨(some 201), .mov (.t 1), none⟩,
      ⟨(some 202), .mov (.t 20), none⟩,
      ⟨(some 203), .mov (.t 18), none⟩,
      ⟨(some 204), .mov (.t 4), none⟩,
      ⟨(some 205), .call 86 [(.t 200), (.t 201), (.t 202), (.t 203), (.t 204)], none⟩])
    (.skip)))
  (.seq (.region [1, 20, 192, 193, 194, 195, 196, 197, 198, 199, 200, 201, 202, 203, 204, 205] [⟨(some 206), .mov (.t 18), none⟩,
    ⟨(some 207), .mov (.t 24), none⟩,
    ⟨(some 208), .bin .lss .no (.t 206) (.t 207), none⟩,
    ⟨(some 209), .mov (.t 208), none⟩,
    ⟨(some 210), .mov (.t 24), some (209, true)⟩,
    ⟨(some 211), .mov (.t 3), some (209, true)⟩,
    ⟨(some 212), .bin .lss .no (.t 210) (.t 211), some (209, true)⟩,
    ⟨(some 213), .pick (.t 209) (.t 212) (.k (.c (.bool false))), none⟩])
  (.cond (.t 213)
    (.region [206, 207, 208, 209, 210, 211, 212, 213] [⟨(some 214), .mov (.t 0), none⟩,
      ⟨(some 215), .mov (.t 18), none⟩,
      ⟨(some 216), .mov (.t 24), none⟩,
      ⟨(some 217), .mov (.t 3), none⟩,
      ⟨(some 218), .mov (.t 4), none⟩,
      ⟨(some 219), .call 86 [(.t 214), (.t 215), (.t 216), (.t 217), (.t 218)], none⟩])
    (.skip)))))))))))))
def fun86 : SFun := ⟨code86, 220, []⟩

/- 92 slices.rotateCmpFunc[int] params #[30, 3, 3, 3, 67] results #[] -/
def ann92 : Ann := ⟨[], [(1, [1, 12, 13, 14]), (2, [3, 15, 16, 17, 32, 33, 34, 47, 48, 49]), (3, [18, 19, 20]), (4, [21, 22, 23]), (5, [24, 25, 26, 27, 28, 29, 30, 31]), (6, [21, 22, 23]), (7, [35, 36, 37, 38, 39, 40, 41, 42, 43, 44, 45, 46]), (8, [11, 18, 19, 20])]⟩
def lp92_0 : SCode :=
  .seq (.seq (.region [3, 15, 16, 17, 32, 33, 34, 47, 48, 49] [⟨(some 18), .mov (.t 10), none⟩,
    ⟨(some 19), .mov (.t 11), none⟩,
    ⟨(some 20), .bin .neq .no (.t 18) (.t 19), none⟩])
  (.cond (.t 20)
    (.skip)
    (.exit 0)))
  (.block 1 (.seq (.region [18, 19, 20] [⟨(some 21), .mov (.t 10), none⟩,
      ⟨(some 22), .mov (.t 11), none⟩,
      ⟨(some 23), .bin .gtr .no (.t 21) (.t 22), none⟩])
    (.cond (.t 23)
      (.seq (.region [21, 22, 23] [⟨(some 24), .mov (.t 0), none⟩,
        ⟨(some 25), .mov (.t 2), none⟩,
        ⟨(some 26), .mov (.t 10), none⟩,
        ⟨(some 27), .bin .sub .no (.t 25) (.t 26), none⟩,
        ⟨(some 28), .mov (.t 2), none⟩,
        ⟨(some 29), .mov (.t 11), none⟩,
        ⟨(some 30), .mov (.t 4), none⟩,
        ⟨(some 31), .call 93 [(.t 24), (.t 27), (.t 28), (.t 29), (.t 30)], none⟩])
      (.region [24, 25, 26, 27, 28, 29, 30, 31] [⟨(some 32), .mov (.t 10), none⟩,
        ⟨(some 33), .mov (.t 11), none⟩,
        ⟨(some 34), .bin .sub .no (.t 32) (.t 33), none⟩,
        ⟨(some 10), .mov (.t 34), none⟩]))
      (.seq (.region [21, 22, 23] [⟨(some 35), .mov (.t 0), none⟩,
        ⟨(some 36), .mov (.t 2), none⟩,
        ⟨(some 37), .mov (.t 10), none⟩,
        ⟨(some 38), .bin .sub .no (.t 36) (.t 37), none⟩,
        ⟨(some 39), .mov (.t 2), none⟩,
        ⟨(some 40), .mov (.t 11), none⟩,
        ⟨(some 41), .bin .add .no (.t 39) (.t 40), none⟩,
        ⟨(some 42), .mov (.t 10), none⟩,
        ⟨(some 43), .bin .sub .no (.t 41) (.t 42), none⟩,
        ⟨(some 44), .mov (.t 10), none⟩,
        ⟨(some 45), .mov (.t 4), none⟩,
        ⟨(some 46), .call 93 [(.t 35), (.t 38), (.t 43), (.t 44), (.t 45)], none⟩])
      (.region [35, 36, 37, 38, 39, 40, 41, 42, 43, 44, 45, 46] [⟨(some 47), .mov (.t 11), none⟩,
        ⟨(some 48), .mov (.t 10), none⟩,
        ⟨(some 49), .bin .sub .no (.t 47) (.t 48), none⟩,
        ⟨(some 11), .mov (.t 49), none⟩])))))
def code92 : SCode :=
  .seq (.region [] [⟨(some 12), .mov (.t 2), none⟩,
    ⟨(some 13), .mov (.t 1), none⟩,
    ⟨(some 14), .bin .sub .no (.t 12) (.t 13), none⟩,
    ⟨(some 10), .mov (.t 14), none⟩])
  (.seq (.region [1, 12, 13, 14] [⟨(some 15), .mov (.t 3), none⟩,
    ⟨(some 16), .mov (.t 2), none⟩,
    ⟨(some 17), .bin .sub .no (.t 15) (.t 16), none⟩,
    ⟨(some 11), .mov (.t 17), none⟩])
  (.seq (.block 0 (.loop lp92_0))
  (.region [11, 18, 19, 20] [⟨(some 50), .mov (.t 0), none⟩,
    ⟨(some 51), .mov (.t 2), none⟩,
    ⟨(some 52), .mov (.t 10), none⟩,
    ⟨(some 53), .bin .sub .no (.t 51) (.t 52), none⟩,
    ⟨(some 54), .mov (.t 2), none⟩,
    ⟨(some 55), .mov (.t 10), none⟩,
    ⟨(some 56), .mov (.t 4), none⟩,
    ⟨(some 57), .call 93 [(.t 50), (.t 53), (.t 54), (.t 55), (.t 56)], none⟩])))
def fun92 : SFun := ⟨code92, 58, []⟩

/- 93 slices.swapRangeCmpFunc[int] params #[30, 3, 3, 3, 67] results #[] -/
def ann93 : Ann := ⟨[], [(0, [4]), (1, [14, 15]), (3, [11, 12, 13]), (2, [16, 17, 18, 19, 20, 21, 22, 23, 24, 25, 26, 27, 28, 29, 30, 31, 32, 33, 34, 35, 36, 37])]⟩
def lp93_0 : SCode :=
  .seq (.seq (.region [14, 15] [⟨(some 11), .mov (.t 10), none⟩,
    ⟨(some 12), .mov (.t 3), none⟩,
    ⟨(some 13), .bin .lss .no (.t 11) (.t 12), none⟩])
  (.cond (.t 13)
    (.skip)
    (.exit 0)))
  (.seq (.block 1 (.drawn [11, 12, 13] [⟨0, ⟨(some 16), .mov (.t 0), none⟩, []⟩,
      ⟨1, ⟨(some 17), .mov (.t 1), none⟩, []⟩,
      ⟨2, ⟨(some 18), .mov (.t 10), none⟩, []⟩,
      ⟨3, ⟨(some 19), .bin .add .no (.t 17) (.t 18), none⟩, []⟩,
      ⟨4, ⟨(some 20), .mov (.t 0), none⟩, []⟩,
      ⟨5, ⟨(some 21), .mov (.t 2), none⟩, []⟩,
      ⟨6, ⟨(some 22), .mov (.t 10), none⟩, []⟩,
      ⟨7, ⟨(some 23), .bin .add .no (.t 21) (.t 22), none⟩, []⟩,
      ⟨8, ⟨(some 24), .mov (.t 0), none⟩, []⟩,
      ⟨9, ⟨(some 25), .mov (.t 2), none⟩, []⟩,
      ⟨10, ⟨(some 26), .mov (.t 10), none⟩, []⟩,
      ⟨11, ⟨(some 27), .bin .add .no (.t 25) (.t 26), none⟩, []⟩,
      ⟨12, ⟨(some 28), .iaddr 1 none (.t 24) (.t 27), none⟩, []⟩,
      ⟨13, ⟨(some 29), .load none (.t 28), none⟩, []⟩,
      ⟨14, ⟨(some 30), .mov (.t 0), none⟩, []⟩,
      ⟨15, ⟨(some 31), .mov (.t 1), none⟩, []⟩,
      ⟨16, ⟨(some 32), .mov (.t 10), none⟩, []⟩,
      ⟨17, ⟨(some 33), .bin .add .no (.t 31) (.t 32), none⟩, []⟩,
      ⟨18, ⟨(some 34), .iaddr 1 none (.t 30) (.t 33), none⟩, []⟩,
      ⟨19, ⟨(some 35), .load none (.t 34), none⟩, []⟩,
      ⟨20, ⟨(some 36), .iaddr 1 none (.t 16) (.t 19), none⟩, []⟩,
      ⟨21, ⟨none, .store none (.t 36) (.t 29), none⟩, []⟩,
      ⟨22, ⟨(some 37), .iaddr 1 none (.t 20) (.t 23), none⟩, []⟩,
      ⟨23, ⟨none, .store none (.t 37) (.t 35), none⟩, []⟩]))
  (.region [16, 17, 18, 19, 20, 21, 22, 23, 24, 25, 26, 27, 28, 29, 30, 31, 32, 33, 34, 35, 36, 37] [⟨(some 14), .mov (.t 10), none⟩,
    ⟨(some 15), .bin .add .no (.t 14) (.k (.c (.int .i64 1))), none⟩,
    ⟨(some 10), .mov (.t 15), none⟩]))
def code93 : SCode :=
  .seq (.region [4] [⟨(some 10), .mov (.k (.c (.int .i64 0))), none⟩])
  (.block 0 (.loop lp93_0))
def fun93 : SFun := ⟨code93, 38, []⟩

def tbl : FuncId → Option SFun
  | 3 => some fun3
  | 4 => some fun4
  | 5 => some fun5
  | 10 => some fun10
  | 11 => some fun11
  | 12 => some fun12
  | 13 => some fun13
  | 14 => some fun14
  | 15 => some fun15
  | 16 => some fun16
  | 17 => some fun17
  | 34 => some fun34
  | 35 => some fun35
  | 36 => some fun36
  | 63 => some fun63
  | 64 => some fun64
  | 65 => some fun65
  | 66 => some fun66
  | 84 => some fun84
  | 85 => some fun85
  | 86 => some fun86
  | 92 => some fun92
  | 93 => some fun93
  | _ => none
def X0 : Oracle := fun _ _ _ => none
end Go.A.Seat
