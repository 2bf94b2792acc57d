import Derived.Test.YtgjjmhmaomcnaaaA23
namespace Go.A.SeatB
/- 3 bowline/bowlinelaw12.PduConfigs params #[23, 3] results #[4] -/
def ann3 : Ann := ⟨[2, 5], [(1, [0, 4]), (2, [6, 7]), (3, [1, 8, 9, 10, 11, 12, 13]), (4, [2, 5, 14, 15, 16]), (5, [8, 9, 10, 11, 12, 13]), (6, [1, 2, 5, 17, 18, 19, 20, 21, 22, 23, 24, 25, 26, 27, 28, 29, 30]), (7, [1, 5, 14, 15, 16, 17, 18, 19, 20, 21, 22, 23, 24, 25, 26, 27, 28, 29, 30])]⟩
def code3 : SCode :=
  .seq (.region [] [⟨(some 2), .lbox 10 (.t 0), none⟩,
    ⟨(some 4), .mov (.k (.c (.bool false))), none⟩])
  (.seq (.region [0, 4] [⟨(some 6), .mov (.t 1), none⟩,
    ⟨(some 7), .call 6 [(.t 6)], none⟩,
    ⟨(some 5), .lnew [(.c (.int .i64 0)), (.c (.int .i64 0)), (.c (.int .i64 0)), (.c (.int .i64 0)), (.c (.int .i64 0)), (.c (.int .i64 0)), (.c (.int .i64 0)), (.c (.int .i64 0)), (.c (.int .i64 0)), (.c (.int .i64 0))], none⟩,
    ⟨none, .store (some 10) (.t 5) (.t 7), none⟩])
  (.seq (.seq (.region [6, 7] [⟨(some 8), .mov (.t 1), none⟩,
    ⟨(some 9), .bin .lss .no (.t 8) (.k (.c (.int .i64 0))), none⟩,
    ⟨(some 10), .mov (.t 9), none⟩,
    ⟨(some 11), .mov (.t 1), some (10, false)⟩,
    ⟨(some 12), .bin .gtr .no (.t 11) (.k (.c (.int .i64 2))), some (10, false)⟩,
    ⟨(some 13), .pick (.t 10) (.k (.c (.bool true))) (.t 12), none⟩])
  (.cond (.t 13)
    (.seq (.region [1, 8, 9, 10, 11, 12, 13] [⟨(some 14), .load (some 10) (.t 5), none⟩,
      ⟨(some 15), .build [(.c (.int .i64 0)), (.c (.int .i64 0)), (.c (.int .i64 0)), (.c (.int .i64 0)), (.c (.int .i64 0)), (.c (.int .i64 0)), (.c (.int .i64 0)), (.c (.int .i64 0)), (.c (.int .i64 0)), (.c (.int .i64 0))] [], none⟩,
      ⟨(some 16), .bin .neq (.agg [.i, .i, .i, .i, .i, .i, .i, .i, .i, .i]) (.t 14) (.t 15), none⟩])
    (.cond (.t 16)
      (.seq (.region [2, 5, 14, 15, 16] [⟨(some 4), .mov (.k (.c (.bool false))), none⟩])
      (.ret))
      (.skip)))
    (.seq (.region [8, 9, 10, 11, 12, 13] [⟨(some 17), .load (some 10) (.t 5), none⟩,
      ⟨(some 18), .call 7 [(.t 17)], none⟩,
      ⟨(some 19), .bin .neq .no (.t 18) (.k (.c (.int .i64 0))), none⟩,
      ⟨(some 20), .mov (.t 19), none⟩,
      ⟨(some 21), .faddr 0 (.t 5), some (20, false)⟩,
      ⟨(some 22), .load none (.t 21), some (20, false)⟩,
      ⟨(some 23), .mov (.t 1), some (20, false)⟩,
      ⟨(some 24), .bin .neq .no (.t 22) (.t 23), some (20, false)⟩,
      ⟨(some 25), .pick (.t 20) (.k (.c (.bool true))) (.t 24), none⟩,
      ⟨(some 26), .mov (.t 25), none⟩,
      ⟨(some 27), .faddr 9 (.t 5), some (26, false)⟩,
      ⟨(some 28), .load none (.t 27), some (26, false)⟩,
      ⟨(some 29), .bin .neq .no (.t 28) (.k (.c (.int .i64 5000))), some (26, false)⟩,
      ⟨(some 30), .pick (.t 26) (.k (.c (.bool true))) (.t 29), none⟩])
    (.cond (.t 30)
      (.seq (.region [1, 2, 5, 17, 18, 19, 20, 21, 22, 23, 24, 25, 26, 27, 28, 29, 30] [⟨(some 4), .mov (.k (.c (.bool false))), none⟩])
      (.ret))
      (.skip)))))
  (.seq (.drawn [1, 5, 14, 15, 16, 17, 18, 19, 20, 21, 22, 23, 24, 25, 26, 27, 28, 29, 30] [⟨0, ⟨(some 31), .call 8 [], none⟩, []⟩,
    ⟨1, ⟨(some 32), .mov (.t 31), none⟩, []⟩,
    ⟨2, ⟨(some 33), .load (some 10) (.t 2), some (32, true)⟩, []⟩,
    ⟨4, ⟨(some 35), .load (some 10) (.t 2), some (32, true)⟩, []⟩,
    ⟨3, ⟨(some 34), .call 7 [(.t 33)], some (32, true)⟩, [4]⟩,
    ⟨5, ⟨(some 36), .call 9 [(.t 35)], some (32, true)⟩, []⟩,
    ⟨6, ⟨(some 37), .bin .eql .no (.t 34) (.t 36), some (32, true)⟩, []⟩,
    ⟨7, ⟨(some 38), .pick (.t 32) (.t 37) (.k (.c (.bool false))), none⟩, []⟩,
    ⟨8, ⟨(some 4), .mov (.t 38), none⟩, []⟩])
  (.ret))))
def fun3 : SFun := ⟨code3, 39, [.tmp 4]⟩

/- 4 bowline/bowlinelaw12.PduBack params #[23, 29, 39] results #[4] -/
def ann4 : Ann := ⟨[3, 5, 7, 13, 15], [(1, [0, 2, 6]), (2, [1, 3, 5, 16, 17, 18, 19, 20, 21, 22]), (3, [16, 17, 18, 19, 20, 21, 22]), (4, [24, 25, 26, 27, 28, 29]), (5, [8, 30, 31]), (6, [7, 32, 33, 34, 35, 36, 37]), (7, [1, 3, 5, 9, 10, 38, 39, 40, 41, 42, 43, 44, 45, 46]), (8, [1, 7, 8, 9, 10, 30, 31, 38, 39, 40, 41, 42, 43, 44, 45, 46]), (9, [47, 48, 49, 50, 51, 52]), (10, [3, 5, 12, 53, 54]), (11, [12, 53, 54]), (12, [3, 11, 61, 62, 63, 64, 65, 66]), (13, [67, 68, 69]), (14, [70]), (15, [71, 72, 73]), (16, [72, 73]), (17, [71, 77, 78]), (18, [77, 78]), (19, [71, 82, 83]), (20, [82, 83]), (21, [71, 87, 88]), (22, [5, 71, 74, 75, 76, 79, 80, 81, 84, 85, 86, 87, 88, 89, 90, 91])]⟩
def code4 : SCode :=
  .seq (.region [] [⟨(some 3), .lbox 10 (.t 0), none⟩,
    ⟨(some 5), .lbox 14 (.t 2), none⟩,
    ⟨(some 6), .mov (.k (.c (.bool false))), none⟩])
  (.seq (.seq (.region [0, 2, 6] [⟨(some 16), .mov (.t 1), none⟩,
    ⟨(some 17), .len .sl (.t 16), none⟩,
    ⟨(some 18), .bin .gtr .no (.t 17) (.k (.c (.int .i64 4100))), none⟩,
    ⟨(some 19), .mov (.t 18), none⟩,
    ⟨(some 20), .load (some 14) (.t 5), some (19, false)⟩,
    ⟨(some 21), .call 10 [(.t 20)], some (19, false)⟩,
    ⟨(some 22), .pick (.t 19) (.k (.c (.bool true))) (.t 21), none⟩])
  (.cond (.t 22)
    (.seq (.region [1, 3, 5, 16, 17, 18, 19, 20, 21, 22] [⟨(some 23), .call 8 [], none⟩,
      ⟨(some 6), .mov (.t 23), none⟩])
    (.ret))
    (.skip)))
  (.seq (.region [16, 17, 18, 19, 20, 21, 22] [⟨(some 25), .load (some 10) (.t 3), none⟩,
    ⟨(some 26), .mov (.t 1), none⟩,
    ⟨(some 27), .call 11 [(.t 25), (.t 26)], none⟩,
    ⟨(some 24), .mov (.t 27), none⟩,
    ⟨(some 28), .ext (.t 24) 0, none⟩,
    ⟨(some 29), .ext (.t 24) 1, none⟩,
    ⟨(some 7), .lnew [(.c (.int .i64 0)), (.c (.slice none 0 0)), (.c (.int .i64 0)), (.c (.int .i64 0)), (.c (.slice none 0 0)), (.c (.bool false)), (.c (.int .i64 0)), (.c (.int .i64 0)), (.c (.bool false)), (.c (.bool false)), (.c (.int .i64 0)), (.c (.slice none 0 0)), (.c (.int .i64 0)), (.c (.slice none 0 0))], none⟩,
    ⟨none, .store (some 14) (.t 7) (.t 28), none⟩,
    ⟨(some 8), .mov (.t 29), none⟩])
  (.seq (.seq (.region [24, 25, 26, 27, 28, 29] [⟨(some 30), .mov (.t 8), none⟩,
    ⟨(some 31), .bin .eql .no (.t 30) (.k (.c (.int .i64 0))), none⟩])
  (.cond (.t 31)
    (.seq (.region [8, 30, 31] [⟨(some 33), .load (some 10) (.t 3), none⟩,
      ⟨(some 34), .load (some 14) (.t 7), none⟩,
      ⟨(some 35), .call 12 [(.t 33), (.t 34)], none⟩,
      ⟨(some 32), .mov (.t 35), none⟩,
      ⟨(some 36), .ext (.t 32) 0, none⟩,
      ⟨(some 37), .ext (.t 32) 1, none⟩,
      ⟨(some 9), .mov (.t 36), none⟩,
      ⟨(some 10), .mov (.t 37), none⟩])
    (.seq (.region [7, 32, 33, 34, 35, 36, 37] [⟨(some 38), .mov (.t 10), none⟩,
      ⟨(some 39), .bin .neq .no (.t 38) (.k (.c (.int .i64 0))), none⟩,
      ⟨(some 40), .mov (.t 39), none⟩,
      ⟨(some 41), .mov (.t 9), some (40, false)⟩,
      ⟨(some 42), .conv .toStr (.t 41), some (40, false)⟩,
      ⟨(some 43), .mov (.t 1), some (40, false)⟩,
      ⟨(some 44), .conv .toStr (.t 43), some (40, false)⟩,
      ⟨(some 45), .bin .neq .no (.t 42) (.t 44), some (40, false)⟩,
      ⟨(some 46), .pick (.t 40) (.k (.c (.bool true))) (.t 45), none⟩])
    (.cond (.t 46)
      (.seq (.region [1, 3, 5, 9, 10, 38, 39, 40, 41, 42, 43, 44, 45, 46] [⟨(some 6), .mov (.k (.c (.bool false))), none⟩])
      (.ret))
      (.skip))))
    (.skip)))
  (.seq (.region [1, 7, 8, 9, 10, 30, 31, 38, 39, 40, 41, 42, 43, 44, 45, 46] [⟨(some 48), .load (some 10) (.t 3), none⟩,
    ⟨(some 49), .load (some 14) (.t 5), none⟩,
    ⟨(some 50), .call 12 [(.t 48), (.t 49)], none⟩,
    ⟨(some 47), .mov (.t 50), none⟩,
    ⟨(some 51), .ext (.t 47) 0, none⟩,
    ⟨(some 52), .ext (.t 47) 1, none⟩,
    ⟨(some 11), .mov (.t 51), none⟩,
    ⟨(some 12), .mov (.t 52), none⟩])
  (.seq (.seq (.region [47, 48, 49, 50, 51, 52] [⟨(some 53), .mov (.t 12), none⟩,
    ⟨(some 54), .bin .neq .no (.t 53) (.k (.c (.int .i64 0))), none⟩])
  (.cond (.t 54)
    (.seq (.region [3, 5, 12, 53, 54] [⟨(some 55), .call 8 [], none⟩,
      ⟨(some 56), .mov (.t 55), none⟩,
      ⟨(some 57), .mov (.t 11), some (56, true)⟩,
      ⟨(some 58), .len .sl (.t 57), some (56, true)⟩,
      ⟨(some 59), .bin .eql .no (.t 58) (.k (.c (.int .i64 0))), some (56, true)⟩,
      ⟨(some 60), .pick (.t 56) (.t 59) (.k (.c (.bool false))), none⟩,
      ⟨(some 6), .mov (.t 60), none⟩])
    (.ret))
    (.skip)))
  (.seq (.region [12, 53, 54] [⟨(some 62), .load (some 10) (.t 3), none⟩,
    ⟨(some 63), .mov (.t 11), none⟩,
    ⟨(some 64), .call 11 [(.t 62), (.t 63)], none⟩,
    ⟨(some 61), .mov (.t 64), none⟩,
    ⟨(some 65), .ext (.t 61) 0, none⟩,
    ⟨(some 66), .ext (.t 61) 1, none⟩,
    ⟨(some 13), .lnew [(.c (.int .i64 0)), (.c (.slice none 0 0)), (.c (.int .i64 0)), (.c (.int .i64 0)), (.c (.slice none 0 0)), (.c (.bool false)), (.c (.int .i64 0)), (.c (.int .i64 0)), (.c (.bool false)), (.c (.bool false)), (.c (.int .i64 0)), (.c (.slice none 0 0)), (.c (.int .i64 0)), (.c (.slice none 0 0))], none⟩,
    ⟨none, .store (some 14) (.t 13) (.t 65), none⟩,
    ⟨(some 14), .mov (.t 66), none⟩])
  (.seq (.region [3, 11, 61, 62, 63, 64, 65, 66] [⟨(some 67), .faddr 0 (.t 5), none⟩,
    ⟨(some 68), .load none (.t 67), none⟩,
    ⟨(some 69), .build [(.c (.int .i64 0)), (.c (.slice none 0 0)), (.c (.int .i64 0)), (.c (.int .i64 0)), (.c (.slice none 0 0)), (.c (.bool false)), (.c (.int .i64 0)), (.c (.int .i64 0)), (.c (.bool false)), (.c (.bool false)), (.c (.int .i64 0)), (.c (.slice none 0 0)), (.c (.int .i64 0)), (.c (.slice none 0 0))] [(0, 1, (.t 68))], none⟩,
    ⟨(some 15), .lnew [(.c (.int .i64 0)), (.c (.slice none 0 0)), (.c (.int .i64 0)), (.c (.int .i64 0)), (.c (.slice none 0 0)), (.c (.bool false)), (.c (.int .i64 0)), (.c (.int .i64 0)), (.c (.bool false)), (.c (.bool false)), (.c (.int .i64 0)), (.c (.slice none 0 0)), (.c (.int .i64 0)), (.c (.slice none 0 0))], none⟩,
    ⟨none, .store (some 14) (.t 15) (.t 69), none⟩])
  (.seq (.seq (.region [67, 68, 69] [⟨(some 70), .faddr 0 (.t 5), none⟩,
    ⟨(some 71), .load none (.t 70), none⟩])
  (.block 0 (.seq (.region [70] [⟨(some 73), .bin .eql .no (.t 71) (.k (.c (.int .i64 0))), none⟩,
      ⟨(some 72), .mov (.t 73), none⟩])
    (.cond (.t 72)
      (.region [71, 72, 73] [⟨(some 74), .faddr 1 (.t 5), none⟩,
        ⟨(some 75), .load none (.t 74), none⟩,
        ⟨(some 76), .faddr 1 (.t 15), none⟩,
        ⟨none, .store none (.t 76) (.t 75), none⟩])
      (.seq (.region [72, 73] [⟨(some 78), .bin .eql .no (.t 71) (.k (.c (.int .i64 1))), none⟩,
        ⟨(some 77), .mov (.t 78), none⟩])
      (.cond (.t 77)
        (.region [71, 77, 78] [⟨(some 79), .faddr 2 (.t 5), none⟩,
          ⟨(some 80), .load (some 3) (.t 79), none⟩,
          ⟨(some 81), .faddr 2 (.t 15), none⟩,
          ⟨none, .store (some 3) (.t 81) (.t 80), none⟩])
        (.seq (.region [77, 78] [⟨(some 83), .bin .eql .no (.t 71) (.k (.c (.int .i64 2))), none⟩,
          ⟨(some 82), .mov (.t 83), none⟩])
        (.cond (.t 82)
          (.region [71, 82, 83] [⟨(some 84), .faddr 5 (.t 5), none⟩,
            ⟨(some 85), .load (some 7) (.t 84), none⟩,
            ⟨(some 86), .faddr 5 (.t 15), none⟩,
            ⟨none, .store (some 7) (.t 86) (.t 85), none⟩])
          (.seq (.region [82, 83] [⟨(some 88), .bin .eql .no (.t 71) (.k (.c (.int .i64 3))), none⟩,
            ⟨(some 87), .mov (.t 88), none⟩])
          (.cond (.t 87)
            (.region [71, 87, 88] [⟨(some 89), .faddr 12 (.t 5), none⟩,
              ⟨(some 90), .load (some 2) (.t 89), none⟩,
              ⟨(some 91), .faddr 12 (.t 15), none⟩,
              ⟨none, .store (some 2) (.t 91) (.t 90), none⟩])
            (.skip)))))))))))
  (.seq (.drawn [5, 71, 74, 75, 76, 79, 80, 81, 84, 85, 86, 87, 88, 89, 90, 91] [⟨0, ⟨(some 92), .call 8 [], none⟩, []⟩,
    ⟨1, ⟨(some 93), .mov (.t 92), none⟩, []⟩,
    ⟨2, ⟨(some 94), .mov (.t 14), some (93, true)⟩, []⟩,
    ⟨3, ⟨(some 95), .bin .eql .no (.t 94) (.k (.c (.int .i64 0))), some (93, true)⟩, []⟩,
    ⟨4, ⟨(some 96), .pick (.t 93) (.t 95) (.k (.c (.bool false))), none⟩, []⟩,
    ⟨5, ⟨(some 97), .mov (.t 96), none⟩, []⟩,
    ⟨6, ⟨(some 98), .load (some 14) (.t 13), some (97, true)⟩, []⟩,
    ⟨8, ⟨(some 100), .load (some 14) (.t 15), some (97, true)⟩, []⟩,
    ⟨7, ⟨(some 99), .call 14 [(.t 98)], some (97, true)⟩, [8]⟩,
    ⟨9, ⟨(some 101), .call 14 [(.t 100)], some (97, true)⟩, []⟩,
    ⟨10, ⟨(some 102), .call 13 [(.t 99), (.t 101)], some (97, true)⟩, []⟩,
    ⟨11, ⟨(some 103), .pick (.t 97) (.t 102) (.k (.c (.bool false))), none⟩, []⟩,
    ⟨12, ⟨(some 6), .mov (.t 103), none⟩, []⟩])
  (.ret))))))))))
def fun4 : SFun := ⟨code4, 104, [.tmp 6]⟩

/- 5 bowline/bowlinelaw12.PduKinds params #[23, 29] results #[4] -/
def ann5 : Ann := ⟨[2, 5], [(1, [0, 4]), (2, [1, 2, 7, 8, 9]), (3, [7, 8, 9]), (4, [11, 12, 13, 14, 15, 16]), (5, [1, 17, 18, 19]), (6, [17, 18, 19]), (7, [5, 6, 32, 33]), (8, [6, 32, 33]), (9, [2, 50]), (10, [51, 52, 53]), (11, [52, 53]), (12, [1, 51, 68, 69]), (13, [51, 68, 69])]⟩
def code5 : SCode :=
  .seq (.region [] [⟨(some 2), .lbox 10 (.t 0), none⟩,
    ⟨(some 4), .mov (.k (.c (.bool false))), none⟩])
  (.seq (.seq (.region [0, 4] [⟨(some 7), .mov (.t 1), none⟩,
    ⟨(some 8), .len .sl (.t 7), none⟩,
    ⟨(some 9), .bin .gtr .no (.t 8) (.k (.c (.int .i64 4100))), none⟩])
  (.cond (.t 9)
    (.seq (.region [1, 2, 7, 8, 9] [⟨(some 10), .call 8 [], none⟩,
      ⟨(some 4), .mov (.t 10), none⟩])
    (.ret))
    (.skip)))
  (.seq (.region [7, 8, 9] [⟨(some 12), .load (some 10) (.t 2), none⟩,
    ⟨(some 13), .mov (.t 1), none⟩,
    ⟨(some 14), .call 11 [(.t 12), (.t 13)], none⟩,
    ⟨(some 11), .mov (.t 14), none⟩,
    ⟨(some 15), .ext (.t 11) 0, none⟩,
    ⟨(some 16), .ext (.t 11) 1, none⟩,
    ⟨(some 5), .lnew [(.c (.int .i64 0)), (.c (.slice none 0 0)), (.c (.int .i64 0)), (.c (.int .i64 0)), (.c (.slice none 0 0)), (.c (.bool false)), (.c (.int .i64 0)), (.c (.int .i64 0)), (.c (.bool false)), (.c (.bool false)), (.c (.int .i64 0)), (.c (.slice none 0 0)), (.c (.int .i64 0)), (.c (.slice none 0 0))], none⟩,
    ⟨none, .store (some 14) (.t 5) (.t 15), none⟩,
    ⟨(some 6), .mov (.t 16), none⟩])
  (.seq (.seq (.region [11, 12, 13, 14, 15, 16] [⟨(some 17), .load (some 10) (.t 2), none⟩,
    ⟨(some 18), .call 7 [(.t 17)], none⟩,
    ⟨(some 19), .bin .neq .no (.t 18) (.k (.c (.int .i64 0))), none⟩])
  (.cond (.t 19)
    (.seq (.region [1, 17, 18, 19] [⟨(some 20), .call 8 [], none⟩,
      ⟨(some 21), .mov (.t 20), none⟩,
      ⟨(some 22), .mov (.t 6), some (21, true)⟩,
      ⟨(some 23), .load (some 10) (.t 2), some (21, true)⟩,
      ⟨(some 24), .call 7 [(.t 23)], some (21, true)⟩,
      ⟨(some 25), .bin .eql .no (.t 22) (.t 24), some (21, true)⟩,
      ⟨(some 26), .pick (.t 21) (.t 25) (.k (.c (.bool false))), none⟩,
      ⟨(some 27), .mov (.t 26), none⟩,
      ⟨(some 28), .faddr 0 (.t 5), some (27, true)⟩,
      ⟨(some 29), .load none (.t 28), some (27, true)⟩,
      ⟨(some 30), .bin .eql .no (.t 29) (.k (.c (.int .i64 0))), some (27, true)⟩,
      ⟨(some 31), .pick (.t 27) (.t 30) (.k (.c (.bool false))), none⟩,
      ⟨(some 4), .mov (.t 31), none⟩])
    (.ret))
    (.skip)))
  (.seq (.seq (.region [17, 18, 19] [⟨(some 32), .mov (.t 6), none⟩,
    ⟨(some 33), .bin .neq .no (.t 32) (.k (.c (.int .i64 0))), none⟩])
  (.cond (.t 33)
    (.seq (.region [5, 6, 32, 33] [⟨(some 34), .call 8 [], none⟩,
      ⟨(some 35), .mov (.t 34), none⟩,
      ⟨(some 36), .faddr 0 (.t 2), some (35, true)⟩,
      ⟨(some 37), .load none (.t 36), some (35, true)⟩,
      ⟨(some 38), .bin .neq .no (.t 37) (.k (.c (.int .i64 0))), some (35, true)⟩,
      ⟨(some 39), .mov (.t 38), some (35, true)⟩,
      ⟨(some 40), .mov (.t 1), some (39, false)⟩,
      ⟨(some 41), .len .sl (.t 40), some (39, false)⟩,
      ⟨(some 42), .bin .eql .no (.t 41) (.k (.c (.int .i64 0))), some (39, false)⟩,
      ⟨(some 43), .pick (.t 39) (.k (.c (.bool true))) (.t 42), some (35, true)⟩,
      ⟨(some 44), .mov (.t 43), some (35, true)⟩,
      ⟨(some 45), .mov (.t 1), some (44, false)⟩,
      ⟨(some 46), .len .sl (.t 45), some (44, false)⟩,
      ⟨(some 47), .bin .gtr .no (.t 46) (.k (.c (.int .i64 1000))), some (44, false)⟩,
      ⟨(some 48), .pick (.t 44) (.k (.c (.bool true))) (.t 47), some (35, true)⟩,
      ⟨(some 49), .pick (.t 35) (.t 48) (.k (.c (.bool false))), none⟩,
      ⟨(some 4), .mov (.t 49), none⟩])
    (.ret))
    (.skip)))
  (.seq (.seq (.region [6, 32, 33] [⟨(some 50), .faddr 0 (.t 2), none⟩,
    ⟨(some 51), .load none (.t 50), none⟩])
  (.block 0 (.seq (.region [2, 50] [⟨(some 53), .bin .eql .no (.t 51) (.k (.c (.int .i64 0))), none⟩,
      ⟨(some 52), .mov (.t 53), none⟩])
    (.cond (.t 52)
      (.seq (.region [51, 52, 53] [⟨(some 54), .call 8 [], none⟩,
        ⟨(some 55), .mov (.t 54), none⟩,
        ⟨(some 56), .faddr 0 (.t 5), some (55, true)⟩,
        ⟨(some 57), .load none (.t 56), some (55, true)⟩,
        ⟨(some 58), .bin .eql .no (.t 57) (.k (.c (.int .i64 0))), some (55, true)⟩,
        ⟨(some 59), .pick (.t 55) (.t 58) (.k (.c (.bool false))), none⟩,
        ⟨(some 60), .mov (.t 59), none⟩,
        ⟨(some 61), .faddr 1 (.t 5), some (60, true)⟩,
        ⟨(some 62), .load none (.t 61), some (60, true)⟩,
        ⟨(some 63), .conv .toStr (.t 62), some (60, true)⟩,
        ⟨(some 64), .mov (.t 1), some (60, true)⟩,
        ⟨(some 65), .conv .toStr (.t 64), some (60, true)⟩,
        ⟨(some 66), .bin .eql .no (.t 63) (.t 65), some (60, true)⟩,
        ⟨(some 67), .pick (.t 60) (.t 66) (.k (.c (.bool false))), none⟩,
        ⟨(some 4), .mov (.t 67), none⟩])
      (.ret))
      (.seq (.region [52, 53] [⟨(some 69), .bin .eql .no (.t 51) (.k (.c (.int .i64 1))), none⟩,
        ⟨(some 68), .mov (.t 69), none⟩])
      (.cond (.t 68)
        (.seq (.region [1, 51, 68, 69] [⟨(some 70), .call 8 [], none⟩,
          ⟨(some 71), .mov (.t 70), none⟩,
          ⟨(some 72), .faddr 0 (.t 5), some (71, true)⟩,
          ⟨(some 73), .load none (.t 72), some (71, true)⟩,
          ⟨(some 74), .bin .eql .no (.t 73) (.k (.c (.int .i64 1))), some (71, true)⟩,
          ⟨(some 75), .pick (.t 71) (.t 74) (.k (.c (.bool false))), none⟩,
          ⟨(some 76), .mov (.t 75), none⟩,
          ⟨(some 77), .faddr 2 (.t 5), some (76, true)⟩,
          ⟨(some 78), .faddr 2 (.t 77), some (76, true)⟩,
          ⟨(some 79), .load none (.t 78), some (76, true)⟩,
          ⟨(some 80), .len .sl (.t 79), some (76, true)⟩,
          ⟨(some 81), .bin .gtr .no (.t 80) (.k (.c (.int .i64 0))), some (76, true)⟩,
          ⟨(some 82), .pick (.t 76) (.t 81) (.k (.c (.bool false))), none⟩,
          ⟨(some 4), .mov (.t 82), none⟩])
        (.ret))
        (.skip)))))))
  (.seq (.drawn [51, 68, 69] [⟨0, ⟨(some 83), .call 8 [], none⟩, []⟩,
    ⟨1, ⟨(some 84), .mov (.t 83), none⟩, []⟩,
    ⟨2, ⟨(some 85), .faddr 0 (.t 5), some (84, true)⟩, []⟩,
    ⟨3, ⟨(some 86), .load none (.t 85), some (84, true)⟩, []⟩,
    ⟨4, ⟨(some 87), .bin .eql .no (.t 86) (.k (.c (.int .i64 3))), some (84, true)⟩, []⟩,
    ⟨5, ⟨(some 88), .mov (.t 1), some (84, true)⟩, []⟩,
    ⟨6, ⟨(some 89), .iaddr 1 none (.t 88) (.k (.c (.int .i64 0))), some (84, true)⟩, []⟩,
    ⟨7, ⟨(some 90), .load none (.t 89), some (84, true)⟩, []⟩,
    ⟨8, ⟨(some 91), .bin .lss .no (.t 90) (.k (.c (.int .u8 128))), some (84, true)⟩, []⟩,
    ⟨9, ⟨(some 92), .bin .eql .bool (.t 87) (.t 91), some (84, true)⟩, []⟩,
    ⟨10, ⟨(some 93), .pick (.t 84) (.t 92) (.k (.c (.bool false))), none⟩, []⟩,
    ⟨11, ⟨(some 94), .mov (.t 93), none⟩, []⟩,
    ⟨12, ⟨(some 95), .faddr 0 (.t 5), some (94, true)⟩, []⟩,
    ⟨13, ⟨(some 96), .load none (.t 95), some (94, true)⟩, []⟩,
    ⟨14, ⟨(some 97), .bin .eql .no (.t 96) (.k (.c (.int .i64 2))), some (94, true)⟩, []⟩,
    ⟨15, ⟨(some 98), .mov (.t 1), some (94, true)⟩, []⟩,
    ⟨16, ⟨(some 99), .iaddr 1 none (.t 98) (.k (.c (.int .i64 0))), some (94, true)⟩, []⟩,
    ⟨17, ⟨(some 100), .load none (.t 99), some (94, true)⟩, []⟩,
    ⟨18, ⟨(some 101), .bin .geq .no (.t 100) (.k (.c (.int .u8 128))), some (94, true)⟩, []⟩,
    ⟨19, ⟨(some 102), .bin .eql .bool (.t 97) (.t 101), some (94, true)⟩, []⟩,
    ⟨20, ⟨(some 103), .pick (.t 94) (.t 102) (.k (.c (.bool false))), none⟩, []⟩,
    ⟨21, ⟨(some 4), .mov (.t 103), none⟩, []⟩])
  (.ret)))))))
def fun5 : SFun := ⟨code5, 104, [.tmp 4]⟩

/- 6 bowline/pdu.Usual params #[3] results #[23] -/
def ann6 : Ann := ⟨[2], [(3, [3, 4, 5]), (4, [4, 5]), (5, [3, 8, 9]), (6, [8, 9]), (7, [3, 12, 13]), (8, [0, 3, 12, 13])]⟩
def code6 : SCode :=
  .seq (.region [] [⟨(some 2), .lnew [(.c (.int .i64 0)), (.c (.int .i64 0)), (.c (.int .i64 0)), (.c (.int .i64 0)), (.c (.int .i64 0)), (.c (.int .i64 0)), (.c (.int .i64 0)), (.c (.int .i64 0)), (.c (.int .i64 0)), (.c (.int .i64 0))], none⟩])
  (.seq (.seq (.region [] [⟨(some 3), .mov (.t 0), none⟩])
  (.block 0 (.seq (.region [] [⟨(some 5), .bin .eql .no (.t 3) (.k (.c (.int .i64 0))), none⟩,
      ⟨(some 4), .mov (.t 5), none⟩])
    (.cond (.t 4)
      (.seq (.region [3, 4, 5] [⟨(some 6), .mov (.t 0), none⟩,
        ⟨(some 7), .build [(.c (.int .i64 0)), (.c (.int .i64 0)), (.c (.int .i64 0)), (.c (.int .i64 0)), (.c (.int .i64 0)), (.c (.int .i64 0)), (.c (.int .i64 0)), (.c (.int .i64 0)), (.c (.int .i64 0)), (.c (.int .i64 0))] [(0, 1, (.t 6)), (9, 1, (.k (.c (.int .i64 5000))))], none⟩,
        ⟨none, .store (some 10) (.t 2) (.t 7), none⟩])
      (.ret))
      (.seq (.region [4, 5] [⟨(some 9), .bin .eql .no (.t 3) (.k (.c (.int .i64 1))), none⟩,
        ⟨(some 8), .mov (.t 9), none⟩])
      (.cond (.t 8)
        (.seq (.region [3, 8, 9] [⟨(some 10), .mov (.t 0), none⟩,
          ⟨(some 11), .build [(.c (.int .i64 0)), (.c (.int .i64 0)), (.c (.int .i64 0)), (.c (.int .i64 0)), (.c (.int .i64 0)), (.c (.int .i64 0)), (.c (.int .i64 0)), (.c (.int .i64 0)), (.c (.int .i64 0)), (.c (.int .i64 0))] [(0, 1, (.t 10)), (1, 1, (.k (.c (.int .i64 5)))), (2, 1, (.k (.c (.int .i64 16)))), (3, 1, (.k (.c (.int .i64 4)))), (9, 1, (.k (.c (.int .i64 5000))))], none⟩,
          ⟨none, .store (some 10) (.t 2) (.t 11), none⟩])
        (.ret))
        (.seq (.region [8, 9] [⟨(some 13), .bin .eql .no (.t 3) (.k (.c (.int .i64 2))), none⟩,
          ⟨(some 12), .mov (.t 13), none⟩])
        (.cond (.t 12)
          (.seq (.region [3, 12, 13] [⟨(some 14), .mov (.t 0), none⟩,
            ⟨(some 15), .build [(.c (.int .i64 0)), (.c (.int .i64 0)), (.c (.int .i64 0)), (.c (.int .i64 0)), (.c (.int .i64 0)), (.c (.int .i64 0)), (.c (.int .i64 0)), (.c (.int .i64 0)), (.c (.int .i64 0)), (.c (.int .i64 0))] [(0, 1, (.t 14)), (1, 1, (.k (.c (.int .i64 10)))), (2, 1, (.k (.c (.int .i64 512)))), (3, 1, (.k (.c (.int .i64 4)))), (4, 1, (.k (.c (.int .i64 8)))), (5, 1, (.k (.c (.int .i64 3)))), (6, 1, (.k (.c (.int .i64 4)))), (7, 1, (.k (.c (.int .i64 500)))), (8, 1, (.k (.c (.int .i64 4)))), (9, 1, (.k (.c (.int .i64 5000))))], none⟩,
            ⟨none, .store (some 10) (.t 2) (.t 15), none⟩])
          (.ret))
          (.skip)))))))))
  (.seq (.region [0, 3, 12, 13] [⟨(some 16), .build [(.c (.int .i64 0)), (.c (.int .i64 0)), (.c (.int .i64 0)), (.c (.int .i64 0)), (.c (.int .i64 0)), (.c (.int .i64 0)), (.c (.int .i64 0)), (.c (.int .i64 0)), (.c (.int .i64 0)), (.c (.int .i64 0))] [], none⟩,
    ⟨none, .store (some 10) (.t 2) (.t 16), none⟩])
  (.ret)))
def fun6 : SFun := ⟨code6, 17, [.cell 2 (some 10)]⟩

/- 7 bowline/pdu.Check params #[23] results #[25] -/
def ann7 : Ann := ⟨[1], [(1, [0, 2]), (2, [3]), (4, [4]), (5, [5, 6, 7]), (6, [6, 7]), (7, [5, 10, 11]), (8, [10, 11]), (9, [5, 14, 15]), (3, [1, 5, 14, 15]), (10, [8, 9, 12, 13, 16, 17]), (11, [1, 3, 18, 19, 20, 21, 22, 23, 24, 25, 26, 27]), (12, [1, 3, 18, 19, 20, 21, 22, 23, 24, 25, 26, 27])]⟩
def code7 : SCode :=
  .seq (.region [] [⟨(some 1), .lbox 10 (.t 0), none⟩,
    ⟨(some 2), .mov (.k (.c (.int .i64 0))), none⟩])
  (.seq (.region [0, 2] [⟨(some 3), .mov (.k (.c (.bool false))), none⟩])
  (.seq (.seq (.region [3] [⟨(some 4), .faddr 0 (.t 1), none⟩,
    ⟨(some 5), .load none (.t 4), none⟩])
  (.block 0 (.seq (.region [4] [⟨(some 7), .bin .eql .no (.t 5) (.k (.c (.int .i64 0))), none⟩,
      ⟨(some 6), .mov (.t 7), none⟩])
    (.cond (.t 6)
      (.region [5, 6, 7] [⟨(some 8), .load (some 10) (.t 1), none⟩,
        ⟨(some 9), .call 15 [(.t 8)], none⟩,
        ⟨(some 3), .mov (.t 9), none⟩])
      (.seq (.region [6, 7] [⟨(some 11), .bin .eql .no (.t 5) (.k (.c (.int .i64 1))), none⟩,
        ⟨(some 10), .mov (.t 11), none⟩])
      (.cond (.t 10)
        (.region [5, 10, 11] [⟨(some 12), .load (some 10) (.t 1), none⟩,
          ⟨(some 13), .call 16 [(.t 12)], none⟩,
          ⟨(some 3), .mov (.t 13), none⟩])
        (.seq (.region [10, 11] [⟨(some 15), .bin .eql .no (.t 5) (.k (.c (.int .i64 2))), none⟩,
          ⟨(some 14), .mov (.t 15), none⟩])
        (.cond (.t 14)
          (.region [5, 14, 15] [⟨(some 16), .load (some 10) (.t 1), none⟩,
            ⟨(some 17), .call 17 [(.t 16)], none⟩,
            ⟨(some 3), .mov (.t 17), none⟩])
          (.seq (.region [1, 5, 14, 15] [⟨(some 2), .mov (.k (.c (.int .i64 9))), none⟩])
          (.ret))))))))))
  (.seq (.seq (.region [8, 9, 12, 13, 16, 17] [⟨(some 18), .mov (.t 3), none⟩,
    ⟨(some 19), .un .not (.t 18), none⟩,
    ⟨(some 20), .mov (.t 19), none⟩,
    ⟨(some 21), .faddr 9 (.t 1), some (20, false)⟩,
    ⟨(some 22), .load none (.t 21), some (20, false)⟩,
    ⟨(some 23), .build [(.c (.int .i64 0)), (.c (.int .i64 0)), (.c (.int .i64 0))] [(0, 1, (.t 22)), (1, 1, (.k (.c (.int .i64 1)))), (2, 1, (.k (.c (.int .i64 20000))))], some (20, false)⟩,
    ⟨(some 24), .bslice 1 3 [(.c (.int .i64 0)), (.c (.int .i64 0)), (.c (.int .i64 0))] [(0, 3, (.t 23))], some (20, false)⟩,
    ⟨(some 25), .call 18 [(.t 24)], some (20, false)⟩,
    ⟨(some 26), .un .not (.t 25), some (20, false)⟩,
    ⟨(some 27), .pick (.t 20) (.k (.c (.bool true))) (.t 26), none⟩])
  (.cond (.t 27)
    (.seq (.region [1, 3, 18, 19, 20, 21, 22, 23, 24, 25, 26, 27] [⟨(some 2), .mov (.k (.c (.int .i64 1))), none⟩])
    (.ret))
    (.skip)))
  (.seq (.region [1, 3, 18, 19, 20, 21, 22, 23, 24, 25, 26, 27] [⟨(some 2), .mov (.k (.c (.int .i64 0))), none⟩])
  (.ret)))))
def fun7 : SFun := ⟨code7, 28, [.tmp 2]⟩

/- 8 bowline/bowlinelaw12.alive params #[] results #[4] -/
def ann8 : Ann := ⟨[1, 2, 4], [(1, [0]), (2, [8]), (3, [9, 10, 11, 12, 13, 14]), (4, [15, 16, 17, 18, 19, 20]), (5, [1, 6, 21, 22, 23, 24, 25, 26])]⟩
def code8 : SCode :=
  .seq (.region [] [⟨(some 0), .mov (.k (.c (.bool false))), none⟩])
  (.seq (.region [0] [⟨(some 8), .call 6 [(.k (.c (.int .i64 2)))], none⟩,
    ⟨(some 1), .lnew [(.c (.int .i64 0)), (.c (.int .i64 0)), (.c (.int .i64 0)), (.c (.int .i64 0)), (.c (.int .i64 0)), (.c (.int .i64 0)), (.c (.int .i64 0)), (.c (.int .i64 0)), (.c (.int .i64 0)), (.c (.int .i64 0))], none⟩,
    ⟨none, .store (some 10) (.t 1) (.t 8), none⟩])
  (.seq (.region [8] [⟨(some 10), .load (some 10) (.t 1), none⟩,
    ⟨(some 11), .bslice 2 1 [(.c (.int .u8 0)), (.c (.int .u8 0))] [(0, 1, (.k (.c (.int .u8 0)))), (1, 1, (.k (.c (.int .u8 20))))], none⟩,
    ⟨(some 12), .call 11 [(.t 10), (.t 11)], none⟩,
    ⟨(some 9), .mov (.t 12), none⟩,
    ⟨(some 13), .ext (.t 9) 0, none⟩,
    ⟨(some 14), .ext (.t 9) 1, none⟩,
    ⟨(some 2), .lnew [(.c (.int .i64 0)), (.c (.slice none 0 0)), (.c (.int .i64 0)), (.c (.int .i64 0)), (.c (.slice none 0 0)), (.c (.bool false)), (.c (.int .i64 0)), (.c (.int .i64 0)), (.c (.bool false)), (.c (.bool false)), (.c (.int .i64 0)), (.c (.slice none 0 0)), (.c (.int .i64 0)), (.c (.slice none 0 0))], none⟩,
    ⟨none, .store (some 14) (.t 2) (.t 13), none⟩,
    ⟨(some 3), .mov (.t 14), none⟩])
  (.seq (.region [9, 10, 11, 12, 13, 14] [⟨(some 16), .load (some 10) (.t 1), none⟩,
    ⟨(some 17), .bslice 3 1 [(.c (.int .u8 0)), (.c (.int .u8 0)), (.c (.int .u8 0))] [(0, 1, (.k (.c (.int .u8 128)))), (1, 1, (.k (.c (.int .u8 5)))), (2, 1, (.k (.c (.int .u8 65))))], none⟩,
    ⟨(some 18), .call 11 [(.t 16), (.t 17)], none⟩,
    ⟨(some 15), .mov (.t 18), none⟩,
    ⟨(some 19), .ext (.t 15) 0, none⟩,
    ⟨(some 20), .ext (.t 15) 1, none⟩,
    ⟨(some 4), .lnew [(.c (.int .i64 0)), (.c (.slice none 0 0)), (.c (.int .i64 0)), (.c (.int .i64 0)), (.c (.slice none 0 0)), (.c (.bool false)), (.c (.int .i64 0)), (.c (.int .i64 0)), (.c (.bool false)), (.c (.bool false)), (.c (.int .i64 0)), (.c (.slice none 0 0)), (.c (.int .i64 0)), (.c (.slice none 0 0))], none⟩,
    ⟨none, .store (some 14) (.t 4) (.t 19), none⟩,
    ⟨(some 5), .mov (.t 20), none⟩])
  (.seq (.region [15, 16, 17, 18, 19, 20] [⟨(some 22), .load (some 10) (.t 1), none⟩,
    ⟨(some 23), .build [(.c (.int .i64 0)), (.c (.slice none 0 0)), (.c (.int .i64 0)), (.c (.int .i64 0)), (.c (.slice none 0 0)), (.c (.bool false)), (.c (.int .i64 0)), (.c (.int .i64 0)), (.c (.bool false)), (.c (.bool false)), (.c (.int .i64 0)), (.c (.slice none 0 0)), (.c (.int .i64 0)), (.c (.slice none 0 0))] [(0, 1, (.k (.c (.int .i64 1))))], none⟩,
    ⟨(some 24), .call 12 [(.t 22), (.t 23)], none⟩,
    ⟨(some 21), .mov (.t 24), none⟩,
    ⟨(some 25), .ext (.t 21) 0, none⟩,
    ⟨(some 26), .ext (.t 21) 1, none⟩,
    ⟨(some 6), .mov (.t 25), none⟩,
    ⟨(some 7), .mov (.t 26), none⟩])
  (.seq (.region [1, 6, 21, 22, 23, 24, 25, 26] [⟨(some 27), .faddr 0 (.t 2), none⟩,
    ⟨(some 28), .load none (.t 27), none⟩,
    ⟨(some 29), .bin .eql .no (.t 28) (.k (.c (.int .i64 3))), none⟩,
    ⟨(some 30), .mov (.t 29), none⟩,
    ⟨(some 31), .faddr 12 (.t 2), some (30, true)⟩,
    ⟨(some 32), .faddr 0 (.t 31), some (30, true)⟩,
    ⟨(some 33), .load none (.t 32), some (30, true)⟩,
    ⟨(some 34), .bin .eql .no (.t 33) (.k (.c (.int .i64 5))), some (30, true)⟩,
    ⟨(some 35), .pick (.t 30) (.t 34) (.k (.c (.bool false))), none⟩,
    ⟨(some 36), .mov (.t 35), none⟩,
    ⟨(some 37), .mov (.t 3), some (36, true)⟩,
    ⟨(some 38), .bin .eql .no (.t 37) (.k (.c (.int .i64 0))), some (36, true)⟩,
    ⟨(some 39), .pick (.t 36) (.t 38) (.k (.c (.bool false))), none⟩,
    ⟨(some 40), .mov (.t 39), none⟩,
    ⟨(some 41), .faddr 0 (.t 4), some (40, true)⟩,
    ⟨(some 42), .load none (.t 41), some (40, true)⟩,
    ⟨(some 43), .bin .eql .no (.t 42) (.k (.c (.int .i64 2))), some (40, true)⟩,
    ⟨(some 44), .pick (.t 40) (.t 43) (.k (.c (.bool false))), none⟩,
    ⟨(some 45), .mov (.t 44), none⟩,
    ⟨(some 46), .faddr 5 (.t 4), some (45, true)⟩,
    ⟨(some 47), .faddr 2 (.t 46), some (45, true)⟩,
    ⟨(some 48), .load none (.t 47), some (45, true)⟩,
    ⟨(some 49), .bin .eql .no (.t 48) (.k (.c (.int .i64 5))), some (45, true)⟩,
    ⟨(some 50), .pick (.t 45) (.t 49) (.k (.c (.bool false))), none⟩,
    ⟨(some 51), .mov (.t 50), none⟩,
    ⟨(some 52), .mov (.t 5), some (51, true)⟩,
    ⟨(some 53), .bin .eql .no (.t 52) (.k (.c (.int .i64 0))), some (51, true)⟩,
    ⟨(some 54), .pick (.t 51) (.t 53) (.k (.c (.bool false))), none⟩,
    ⟨(some 55), .mov (.t 54), none⟩,
    ⟨(some 56), .mov (.t 7), some (55, true)⟩,
    ⟨(some 57), .bin .eql .no (.t 56) (.k (.c (.int .i64 7))), some (55, true)⟩,
    ⟨(some 58), .pick (.t 55) (.t 57) (.k (.c (.bool false))), none⟩,
    ⟨(some 59), .mov (.t 58), none⟩,
    ⟨(some 60), .build [(.c (.int .i64 0)), (.c (.int .i64 0)), (.c (.int .i64 0)), (.c (.int .i64 0)), (.c (.int .i64 0)), (.c (.int .i64 0)), (.c (.int .i64 0)), (.c (.int .i64 0)), (.c (.int .i64 0)), (.c (.int .i64 0))] [], some (59, true)⟩,
    ⟨(some 61), .call 7 [(.t 60)], some (59, true)⟩,
    ⟨(some 62), .bin .eql .no (.t 61) (.k (.c (.int .i64 1))), some (59, true)⟩,
    ⟨(some 63), .pick (.t 59) (.t 62) (.k (.c (.bool false))), none⟩,
    ⟨(some 64), .mov (.t 63), none⟩,
    ⟨(some 65), .build [(.c (.int .i64 0)), (.c (.int .i64 0)), (.c (.int .i64 0)), (.c (.int .i64 0)), (.c (.int .i64 0)), (.c (.int .i64 0)), (.c (.int .i64 0)), (.c (.int .i64 0)), (.c (.int .i64 0)), (.c (.int .i64 0))] [(0, 1, (.k (.c (.int .i64 3))))], some (64, true)⟩,
    ⟨(some 66), .call 7 [(.t 65)], some (64, true)⟩,
    ⟨(some 67), .bin .eql .no (.t 66) (.k (.c (.int .i64 9))), some (64, true)⟩,
    ⟨(some 68), .pick (.t 64) (.t 67) (.k (.c (.bool false))), none⟩,
    ⟨(some 0), .mov (.t 68), none⟩])
  (.ret))))))
def fun8 : SFun := ⟨code8, 69, [.tmp 0]⟩

/- 9 bowline/bowlineref12.Check params #[23] results #[25] -/
def ann9 : Ann := ⟨[1], [(1, [0, 2]), (2, [5, 6, 7]), (3, [8, 9, 10, 11]), (5, [12]), (6, [4, 13, 14, 15]), (7, [14, 15]), (8, [13, 32, 33]), (9, [32, 33]), (10, [13, 56, 57]), (4, [1, 3, 4, 13, 56, 57]), (11, [4, 16, 17, 18, 19, 20, 21, 22, 23, 24, 25, 26, 27, 28, 29, 30, 31, 34, 35, 36, 37, 38, 39, 40, 41, 42, 43, 44, 45, 46, 47, 48, 49, 50, 51, 52, 53, 54, 55, 58, 59, 60, 61, 62, 63, 64, 65, 66, 67, 68, 69, 70, 71, 72, 73, 74, 75, 76, 77, 78, 79, 80, 81, 82, 83, 84, 85, 86, 87, 88, 89, 90, 91, 92, 93, 94, 95, 96, 97, 98, 99, 100, 101, 102, 103, 104]), (12, [1, 3, 105, 106, 107, 108, 109, 110, 111, 112, 113, 114, 115, 116, 117, 118, 119, 120, 121, 122, 123, 124, 125, 126, 127, 128, 129, 130, 131, 132]), (13, [1, 105, 106, 107, 108, 109, 110, 111, 112, 113, 114, 115, 116, 117, 118, 119, 120, 121, 122, 123, 124, 125, 126, 127, 128, 129, 130, 131, 132]), (14, [3, 133, 134]), (15, [3, 133, 134])]⟩
def code9 : SCode :=
  .seq (.region [] [⟨(some 1), .lbox 10 (.t 0), none⟩,
    ⟨(some 2), .mov (.k (.c (.int .i64 0))), none⟩])
  (.seq (.region [0, 2] [⟨(some 5), .faddr 9 (.t 1), none⟩,
    ⟨(some 6), .load none (.t 5), none⟩,
    ⟨(some 7), .call 19 [(.t 6), (.k (.c (.int .i64 1))), (.k (.c (.int .i64 20000)))], none⟩,
    ⟨(some 3), .mov (.t 7), none⟩])
  (.seq (.region [5, 6, 7] [⟨(some 8), .faddr 1 (.t 1), none⟩,
    ⟨(some 9), .load none (.t 8), none⟩,
    ⟨(some 10), .call 20 [(.t 9)], none⟩,
    ⟨(some 11), .bin .quo .no (.t 10) (.k (.c (.int .i64 2))), none⟩,
    ⟨(some 4), .mov (.t 11), none⟩])
  (.seq (.seq (.region [8, 9, 10, 11] [⟨(some 12), .faddr 0 (.t 1), none⟩,
    ⟨(some 13), .load none (.t 12), none⟩])
  (.block 0 (.seq (.region [12] [⟨(some 15), .bin .eql .no (.t 13) (.k (.c (.int .i64 0))), none⟩,
      ⟨(some 14), .mov (.t 15), none⟩])
    (.cond (.t 14)
      (.region [4, 13, 14, 15] [⟨(some 16), .mov (.t 3), none⟩,
        ⟨(some 17), .mov (.t 16), none⟩,
        ⟨(some 18), .faddr 1 (.t 1), some (17, true)⟩,
        ⟨(some 19), .load none (.t 18), some (17, true)⟩,
        ⟨(some 20), .bin .eql .no (.t 19) (.k (.c (.int .i64 0))), some (17, true)⟩,
        ⟨(some 21), .pick (.t 17) (.t 20) (.k (.c (.bool false))), none⟩,
        ⟨(some 22), .mov (.t 21), none⟩,
        ⟨(some 23), .faddr 2 (.t 1), some (22, true)⟩,
        ⟨(some 24), .load none (.t 23), some (22, true)⟩,
        ⟨(some 25), .bin .eql .no (.t 24) (.k (.c (.int .i64 0))), some (22, true)⟩,
        ⟨(some 26), .pick (.t 22) (.t 25) (.k (.c (.bool false))), none⟩,
        ⟨(some 27), .mov (.t 26), none⟩,
        ⟨(some 28), .faddr 3 (.t 1), some (27, true)⟩,
        ⟨(some 29), .load none (.t 28), some (27, true)⟩,
        ⟨(some 30), .bin .eql .no (.t 29) (.k (.c (.int .i64 0))), some (27, true)⟩,
        ⟨(some 31), .pick (.t 27) (.t 30) (.k (.c (.bool false))), none⟩,
        ⟨(some 3), .mov (.t 31), none⟩])
      (.seq (.region [14, 15] [⟨(some 33), .bin .eql .no (.t 13) (.k (.c (.int .i64 1))), none⟩,
        ⟨(some 32), .mov (.t 33), none⟩])
      (.cond (.t 32)
        (.region [13, 32, 33] [⟨(some 34), .mov (.t 3), none⟩,
          ⟨(some 35), .mov (.t 34), none⟩,
          ⟨(some 36), .faddr 1 (.t 1), some (35, true)⟩,
          ⟨(some 37), .load none (.t 36), some (35, true)⟩,
          ⟨(some 38), .bin .eql .no (.t 37) (.k (.c (.int .i64 5))), some (35, true)⟩,
          ⟨(some 39), .mov (.t 38), some (35, true)⟩,
          ⟨(some 40), .faddr 1 (.t 1), some (39, false)⟩,
          ⟨(some 41), .load none (.t 40), some (39, false)⟩,
          ⟨(some 42), .bin .eql .no (.t 41) (.k (.c (.int .i64 10))), some (39, false)⟩,
          ⟨(some 43), .pick (.t 39) (.k (.c (.bool true))) (.t 42), some (35, true)⟩,
          ⟨(some 44), .pick (.t 35) (.t 43) (.k (.c (.bool false))), none⟩,
          ⟨(some 45), .mov (.t 44), none⟩,
          ⟨(some 46), .faddr 2 (.t 1), some (45, true)⟩,
          ⟨(some 47), .load none (.t 46), some (45, true)⟩,
          ⟨(some 48), .mov (.t 4), some (45, true)⟩,
          ⟨(some 49), .call 19 [(.t 47), (.k (.c (.int .i64 1))), (.t 48)], some (45, true)⟩,
          ⟨(some 50), .pick (.t 45) (.t 49) (.k (.c (.bool false))), none⟩,
          ⟨(some 51), .mov (.t 50), none⟩,
          ⟨(some 52), .faddr 3 (.t 1), some (51, true)⟩,
          ⟨(some 53), .load none (.t 52), some (51, true)⟩,
          ⟨(some 54), .call 19 [(.t 53), (.k (.c (.int .i64 1))), (.k (.c (.int .i64 1000)))], some (51, true)⟩,
          ⟨(some 55), .pick (.t 51) (.t 54) (.k (.c (.bool false))), none⟩,
          ⟨(some 3), .mov (.t 55), none⟩])
        (.seq (.region [32, 33] [⟨(some 57), .bin .eql .no (.t 13) (.k (.c (.int .i64 2))), none⟩,
          ⟨(some 56), .mov (.t 57), none⟩])
        (.cond (.t 56)
          (.region [13, 56, 57] [⟨(some 58), .mov (.t 3), none⟩,
            ⟨(some 59), .mov (.t 58), none⟩,
            ⟨(some 60), .faddr 1 (.t 1), some (59, true)⟩,
            ⟨(some 61), .load none (.t 60), some (59, true)⟩,
            ⟨(some 62), .bin .eql .no (.t 61) (.k (.c (.int .i64 10))), some (59, true)⟩,
            ⟨(some 63), .mov (.t 62), some (59, true)⟩,
            ⟨(some 64), .faddr 1 (.t 1), some (63, false)⟩,
            ⟨(some 65), .load none (.t 64), some (63, false)⟩,
            ⟨(some 66), .bin .eql .no (.t 65) (.k (.c (.int .i64 16))), some (63, false)⟩,
            ⟨(some 67), .pick (.t 63) (.k (.c (.bool true))) (.t 66), some (59, true)⟩,
            ⟨(some 68), .pick (.t 59) (.t 67) (.k (.c (.bool false))), none⟩,
            ⟨(some 69), .mov (.t 68), none⟩,
            ⟨(some 70), .faddr 2 (.t 1), some (69, true)⟩,
            ⟨(some 71), .load none (.t 70), some (69, true)⟩,
            ⟨(some 72), .mov (.t 4), some (69, true)⟩,
            ⟨(some 73), .call 19 [(.t 71), (.k (.c (.int .i64 1))), (.t 72)], some (69, true)⟩,
            ⟨(some 74), .pick (.t 69) (.t 73) (.k (.c (.bool false))), none⟩,
            ⟨(some 75), .mov (.t 74), none⟩,
            ⟨(some 76), .faddr 3 (.t 1), some (75, true)⟩,
            ⟨(some 77), .load none (.t 76), some (75, true)⟩,
            ⟨(some 78), .call 19 [(.t 77), (.k (.c (.int .i64 1))), (.k (.c (.int .i64 1000)))], some (75, true)⟩,
            ⟨(some 79), .pick (.t 75) (.t 78) (.k (.c (.bool false))), none⟩,
            ⟨(some 80), .mov (.t 79), none⟩,
            ⟨(some 81), .faddr 4 (.t 1), some (80, true)⟩,
            ⟨(some 82), .load none (.t 81), some (80, true)⟩,
            ⟨(some 83), .call 19 [(.t 82), (.k (.c (.int .i64 1))), (.k (.c (.int .i64 1000)))], some (80, true)⟩,
            ⟨(some 84), .pick (.t 80) (.t 83) (.k (.c (.bool false))), none⟩,
            ⟨(some 85), .mov (.t 84), none⟩,
            ⟨(some 86), .faddr 5 (.t 1), some (85, true)⟩,
            ⟨(some 87), .load none (.t 86), some (85, true)⟩,
            ⟨(some 88), .call 19 [(.t 87), (.k (.c (.int .i64 0))), (.k (.c (.int .i64 1000)))], some (85, true)⟩,
            ⟨(some 89), .pick (.t 85) (.t 88) (.k (.c (.bool false))), none⟩,
            ⟨(some 90), .mov (.t 89), none⟩,
            ⟨(some 91), .faddr 6 (.t 1), some (90, true)⟩,
            ⟨(some 92), .load none (.t 91), some (90, true)⟩,
            ⟨(some 93), .call 19 [(.t 92), (.k (.c (.int .i64 1))), (.k (.c (.int .i64 1000)))], some (90, true)⟩,
            ⟨(some 94), .pick (.t 90) (.t 93) (.k (.c (.bool false))), none⟩,
            ⟨(some 95), .mov (.t 94), none⟩,
            ⟨(some 96), .faddr 7 (.t 1), some (95, true)⟩,
            ⟨(some 97), .load none (.t 96), some (95, true)⟩,
            ⟨(some 98), .call 19 [(.t 97), (.k (.c (.int .i64 1))), (.k (.c (.int .i64 20000)))], some (95, true)⟩,
            ⟨(some 99), .pick (.t 95) (.t 98) (.k (.c (.bool false))), none⟩,
            ⟨(some 100), .mov (.t 99), none⟩,
            ⟨(some 101), .faddr 8 (.t 1), some (100, true)⟩,
            ⟨(some 102), .load none (.t 101), some (100, true)⟩,
            ⟨(some 103), .call 19 [(.t 102), (.k (.c (.int .i64 1))), (.k (.c (.int .i64 32)))], some (100, true)⟩,
            ⟨(some 104), .pick (.t 100) (.t 103) (.k (.c (.bool false))), none⟩,
            ⟨(some 3), .mov (.t 104), none⟩])
          (.seq (.region [1, 3, 4, 13, 56, 57] [⟨(some 2), .mov (.k (.c (.int .i64 9))), none⟩])
          (.ret))))))))))
  (.seq (.seq (.region [4, 16, 17, 18, 19, 20, 21, 22, 23, 24, 25, 26, 27, 28, 29, 30, 31, 34, 35, 36, 37, 38, 39, 40, 41, 42, 43, 44, 45, 46, 47, 48, 49, 50, 51, 52, 53, 54, 55, 58, 59, 60, 61, 62, 63, 64, 65, 66, 67, 68, 69, 70, 71, 72, 73, 74, 75, 76, 77, 78, 79, 80, 81, 82, 83, 84, 85, 86, 87, 88, 89, 90, 91, 92, 93, 94, 95, 96, 97, 98, 99, 100, 101, 102, 103, 104] [⟨(some 105), .faddr 0 (.t 1), none⟩,
    ⟨(some 106), .load none (.t 105), none⟩,
    ⟨(some 107), .bin .neq .no (.t 106) (.k (.c (.int .i64 2))), none⟩,
    ⟨(some 108), .mov (.t 107), none⟩,
    ⟨(some 109), .faddr 4 (.t 1), some (108, true)⟩,
    ⟨(some 110), .load none (.t 109), some (108, true)⟩,
    ⟨(some 111), .bin .neq .no (.t 110) (.k (.c (.int .i64 0))), some (108, true)⟩,
    ⟨(some 112), .mov (.t 111), some (108, true)⟩,
    ⟨(some 113), .faddr 5 (.t 1), some (112, false)⟩,
    ⟨(some 114), .load none (.t 113), some (112, false)⟩,
    ⟨(some 115), .bin .neq .no (.t 114) (.k (.c (.int .i64 0))), some (112, false)⟩,
    ⟨(some 116), .pick (.t 112) (.k (.c (.bool true))) (.t 115), some (108, true)⟩,
    ⟨(some 117), .mov (.t 116), some (108, true)⟩,
    ⟨(some 118), .faddr 6 (.t 1), some (117, false)⟩,
    ⟨(some 119), .load none (.t 118), some (117, false)⟩,
    ⟨(some 120), .bin .neq .no (.t 119) (.k (.c (.int .i64 0))), some (117, false)⟩,
    ⟨(some 121), .pick (.t 117) (.k (.c (.bool true))) (.t 120), some (108, true)⟩,
    ⟨(some 122), .mov (.t 121), some (108, true)⟩,
    ⟨(some 123), .faddr 7 (.t 1), some (122, false)⟩,
    ⟨(some 124), .load none (.t 123), some (122, false)⟩,
    ⟨(some 125), .bin .neq .no (.t 124) (.k (.c (.int .i64 0))), some (122, false)⟩,
    ⟨(some 126), .pick (.t 122) (.k (.c (.bool true))) (.t 125), some (108, true)⟩,
    ⟨(some 127), .mov (.t 126), some (108, true)⟩,
    ⟨(some 128), .faddr 8 (.t 1), some (127, false)⟩,
    ⟨(some 129), .load none (.t 128), some (127, false)⟩,
    ⟨(some 130), .bin .neq .no (.t 129) (.k (.c (.int .i64 0))), some (127, false)⟩,
    ⟨(some 131), .pick (.t 127) (.k (.c (.bool true))) (.t 130), some (108, true)⟩,
    ⟨(some 132), .pick (.t 108) (.t 131) (.k (.c (.bool false))), none⟩])
  (.cond (.t 132)
    (.region [1, 3, 105, 106, 107, 108, 109, 110, 111, 112, 113, 114, 115, 116, 117, 118, 119, 120, 121, 122, 123, 124, 125, 126, 127, 128, 129, 130, 131, 132] [⟨(some 3), .mov (.k (.c (.bool false))), none⟩])
    (.skip)))
  (.seq (.seq (.region [1, 105, 106, 107, 108, 109, 110, 111, 112, 113, 114, 115, 116, 117, 118, 119, 120, 121, 122, 123, 124, 125, 126, 127, 128, 129, 130, 131, 132] [⟨(some 133), .mov (.t 3), none⟩,
    ⟨(some 134), .un .not (.t 133), none⟩])
  (.cond (.t 134)
    (.seq (.region [3, 133, 134] [⟨(some 2), .mov (.k (.c (.int .i64 1))), none⟩])
    (.ret))
    (.skip)))
  (.seq (.region [3, 133, 134] [⟨(some 2), .mov (.k (.c (.int .i64 0))), none⟩])
  (.ret)))))))
def fun9 : SFun := ⟨code9, 135, [.tmp 2]⟩

/- 10 bowline/bowlinelaw12.great params #[39] results #[4] -/
def ann10 : Ann := ⟨[1], [(1, [0, 2])]⟩
def code10 : SCode :=
  .seq (.region [] [⟨(some 1), .lbox 14 (.t 0), none⟩,
    ⟨(some 2), .mov (.k (.c (.bool false))), none⟩])
  (.seq (.region [0, 2] [⟨(some 3), .faddr 1 (.t 1), none⟩,
    ⟨(some 4), .load none (.t 3), none⟩,
    ⟨(some 5), .len .sl (.t 4), none⟩,
    ⟨(some 6), .bin .gtr .no (.t 5) (.k (.c (.int .i64 1100))), none⟩,
    ⟨(some 7), .mov (.t 6), none⟩,
    ⟨(some 8), .faddr 2 (.t 1), some (7, false)⟩,
    ⟨(some 9), .faddr 2 (.t 8), some (7, false)⟩,
    ⟨(some 10), .load none (.t 9), some (7, false)⟩,
    ⟨(some 11), .call 21 [(.t 10)], some (7, false)⟩,
    ⟨(some 12), .pick (.t 7) (.k (.c (.bool true))) (.t 11), none⟩,
    ⟨(some 13), .mov (.t 12), none⟩,
    ⟨(some 14), .faddr 5 (.t 1), some (13, false)⟩,
    ⟨(some 15), .faddr 6 (.t 14), some (13, false)⟩,
    ⟨(some 16), .load none (.t 15), some (13, false)⟩,
    ⟨(some 17), .call 21 [(.t 16)], some (13, false)⟩,
    ⟨(some 18), .pick (.t 13) (.k (.c (.bool true))) (.t 17), none⟩,
    ⟨(some 19), .mov (.t 18), none⟩,
    ⟨(some 20), .faddr 12 (.t 1), some (19, false)⟩,
    ⟨(some 21), .faddr 1 (.t 20), some (19, false)⟩,
    ⟨(some 22), .load none (.t 21), some (19, false)⟩,
    ⟨(some 23), .len .sl (.t 22), some (19, false)⟩,
    ⟨(some 24), .bin .gtr .no (.t 23) (.k (.c (.int .i64 60))), some (19, false)⟩,
    ⟨(some 25), .pick (.t 19) (.k (.c (.bool true))) (.t 24), none⟩,
    ⟨(some 2), .mov (.t 25), none⟩])
  (.ret))
def fun10 : SFun := ⟨code10, 26, [.tmp 2]⟩

/- 11 bowline/pdu.Read params #[23, 29] results #[39, 25] -/
def ann11 : Ann := ⟨[2, 4, 7], [(1, [0, 5]), (2, [9, 10]), (3, [1, 2, 11, 12]), (4, [6, 11, 12]), (8, [8]), (9, [2, 7, 24, 25, 26, 27]), (10, [24, 25, 26, 27]), (11, [32, 33, 34, 35]), (12, [36]), (13, [32, 33, 34, 35]), (14, [45, 46, 47, 48, 49, 50, 51, 52, 53, 54, 55]), (15, [56]), (6, [45, 46, 47, 48, 49, 50, 51, 52, 53, 54, 55]), (7, [15]), (16, [1, 2, 16, 17, 18, 19, 20, 21, 22, 23, 37, 38, 39, 40, 41, 42, 43, 44, 57, 58, 59, 60, 61, 62, 63, 64]), (17, [8, 65, 66]), (18, [7, 65, 66])]⟩
def sc11_0 : SCode :=
  .seq (.skip)
  (.seq (.region [7, 65, 66] [⟨(some 68), .build [(.c (.int .i64 0)), (.c (.slice none 0 0)), (.c (.int .i64 0)), (.c (.int .i64 0)), (.c (.slice none 0 0)), (.c (.bool false)), (.c (.int .i64 0)), (.c (.int .i64 0)), (.c (.bool false)), (.c (.bool false)), (.c (.int .i64 0)), (.c (.slice none 0 0)), (.c (.int .i64 0)), (.c (.slice none 0 0))] [], none⟩,
    ⟨(some 69), .mov (.t 8), none⟩,
    ⟨none, .store (some 14) (.t 4) (.t 68), none⟩,
    ⟨(some 5), .mov (.t 69), none⟩])
  (.ret))
def code11 : SCode :=
  .seq (.region [] [⟨(some 2), .lbox 10 (.t 0), none⟩,
    ⟨(some 4), .lnew [(.c (.int .i64 0)), (.c (.slice none 0 0)), (.c (.int .i64 0)), (.c (.int .i64 0)), (.c (.slice none 0 0)), (.c (.bool false)), (.c (.int .i64 0)), (.c (.int .i64 0)), (.c (.bool false)), (.c (.bool false)), (.c (.int .i64 0)), (.c (.slice none 0 0)), (.c (.int .i64 0)), (.c (.slice none 0 0))], none⟩,
    ⟨(some 5), .mov (.k (.c (.int .i64 0))), none⟩])
  (.scope (.seq (.seq (.region [0, 5] [⟨(some 9), .load (some 10) (.t 2), none⟩,
      ⟨(some 10), .call 7 [(.t 9)], none⟩,
      ⟨(some 6), .mov (.t 10), none⟩])
    (.seq (.region [9, 10] [⟨(some 11), .mov (.t 6), none⟩,
      ⟨(some 12), .bin .neq .no (.t 11) (.k (.c (.int .i64 0))), none⟩])
    (.cond (.t 12)
      (.seq (.region [1, 2, 11, 12] [⟨(some 13), .build [(.c (.int .i64 0)), (.c (.slice none 0 0)), (.c (.int .i64 0)), (.c (.int .i64 0)), (.c (.slice none 0 0)), (.c (.bool false)), (.c (.int .i64 0)), (.c (.int .i64 0)), (.c (.bool false)), (.c (.bool false)), (.c (.int .i64 0)), (.c (.slice none 0 0)), (.c (.int .i64 0)), (.c (.slice none 0 0))] [], none⟩,
        ⟨(some 14), .mov (.t 6), none⟩,
        ⟨none, .store (some 14) (.t 4) (.t 13), none⟩,
        ⟨(some 5), .mov (.t 14), none⟩])
      (.ret))
      (.skip))))
    (.seq (.region [6, 11, 12] [⟨(some 7), .lnew [(.c (.int .i64 0)), (.c (.slice none 0 0)), (.c (.int .i64 0)), (.c (.int .i64 0)), (.c (.slice none 0 0)), (.c (.bool false)), (.c (.int .i64 0)), (.c (.int .i64 0)), (.c (.bool false)), (.c (.bool false)), (.c (.int .i64 0)), (.c (.slice none 0 0)), (.c (.int .i64 0)), (.c (.slice none 0 0))], none⟩])
    (.seq (.region [] [⟨(some 8), .mov (.k (.c (.int .i64 0))), none⟩])
    (.seq (.block 0 (.seq (.region [8] [⟨(some 25), .faddr 0 (.t 2), none⟩,
        ⟨(some 26), .load none (.t 25), none⟩,
        ⟨(some 27), .bin .eql .no (.t 26) (.k (.c (.int .i64 0))), none⟩,
        ⟨(some 24), .mov (.t 27), none⟩])
      (.cond (.t 24)
        (.seq (.region [2, 7, 24, 25, 26, 27] [⟨(some 28), .mov (.t 1), none⟩,
          ⟨(some 29), .call 22 [(.t 28)], none⟩,
          ⟨(some 30), .ext (.t 29) 0, none⟩,
          ⟨(some 31), .ext (.t 29) 1, none⟩,
          ⟨none, .store (some 14) (.t 4) (.t 30), none⟩,
          ⟨(some 5), .mov (.t 31), none⟩])
        (.ret))
        (.seq (.region [24, 25, 26, 27] [⟨(some 33), .faddr 0 (.t 2), none⟩,
          ⟨(some 34), .load none (.t 33), none⟩,
          ⟨(some 35), .bin .eql .no (.t 34) (.k (.c (.int .i64 1))), none⟩,
          ⟨(some 32), .mov (.t 35), none⟩])
        (.cond (.t 32)
          (.seq (.region [32, 33, 34, 35] [⟨(some 36), .faddr 0 (.t 7), none⟩,
            ⟨none, .store none (.t 36) (.k (.c (.int .i64 1))), none⟩])
          (.region [36] [⟨(some 38), .mov (.t 1), none⟩,
            ⟨(some 39), .faddr 1 (.t 2), none⟩,
            ⟨(some 40), .load none (.t 39), none⟩,
            ⟨(some 41), .call 23 [(.t 38), (.t 40)], none⟩,
            ⟨(some 37), .mov (.t 41), none⟩,
            ⟨(some 42), .ext (.t 37) 0, none⟩,
            ⟨(some 43), .ext (.t 37) 1, none⟩,
            ⟨(some 44), .faddr 2 (.t 7), none⟩,
            ⟨none, .store (some 3) (.t 44) (.t 42), none⟩,
            ⟨(some 8), .mov (.t 43), none⟩]))
          (.seq (.region [32, 33, 34, 35] [⟨(some 46), .mov (.t 1), none⟩,
            ⟨(some 47), .len .sl (.t 46), none⟩,
            ⟨(some 48), .bin .gtr .no (.t 47) (.k (.c (.int .i64 0))), none⟩,
            ⟨(some 49), .mov (.t 48), none⟩,
            ⟨(some 50), .mov (.t 1), some (49, true)⟩,
            ⟨(some 51), .iaddr 1 none (.t 50) (.k (.c (.int .i64 0))), some (49, true)⟩,
            ⟨(some 52), .load none (.t 51), some (49, true)⟩,
            ⟨(some 53), .bin .and .no (.t 52) (.k (.c (.int .u8 128))), some (49, true)⟩,
            ⟨(some 54), .bin .eql .no (.t 53) (.k (.c (.int .u8 0))), some (49, true)⟩,
            ⟨(some 55), .pick (.t 49) (.t 54) (.k (.c (.bool false))), none⟩,
            ⟨(some 45), .mov (.t 55), none⟩])
          (.cond (.t 45)
            (.seq (.region [45, 46, 47, 48, 49, 50, 51, 52, 53, 54, 55] [⟨(some 56), .faddr 0 (.t 7), none⟩,
              ⟨none, .store none (.t 56) (.k (.c (.int .i64 3))), none⟩])
            (.region [56] [⟨(some 58), .mov (.t 1), none⟩,
              ⟨(some 59), .faddr 1 (.t 2), none⟩,
              ⟨(some 60), .load none (.t 59), none⟩,
              ⟨(some 61), .call 24 [(.t 58), (.t 60)], none⟩,
              ⟨(some 57), .mov (.t 61), none⟩,
              ⟨(some 62), .ext (.t 57) 0, none⟩,
              ⟨(some 63), .ext (.t 57) 1, none⟩,
              ⟨(some 64), .faddr 12 (.t 7), none⟩,
              ⟨none, .store (some 2) (.t 64) (.t 62), none⟩,
              ⟨(some 8), .mov (.t 63), none⟩]))
            (.seq (.region [45, 46, 47, 48, 49, 50, 51, 52, 53, 54, 55] [⟨(some 15), .faddr 0 (.t 7), none⟩,
              ⟨none, .store none (.t 15) (.k (.c (.int .i64 2))), none⟩])
            (.region [15] [⟨(some 17), .mov (.t 1), none⟩,
              ⟨(some 18), .faddr 1 (.t 2), none⟩,
              ⟨(some 19), .load none (.t 18), none⟩,
              ⟨(some 20), .call 25 [(.t 17), (.t 19)], none⟩,
              ⟨(some 16), .mov (.t 20), none⟩,
              ⟨(some 21), .ext (.t 16) 0, none⟩,
              ⟨(some 22), .ext (.t 16) 1, none⟩,
              ⟨(some 23), .faddr 5 (.t 7), none⟩,
              ⟨none, .store (some 7) (.t 23) (.t 21), none⟩,
              ⟨(some 8), .mov (.t 22), none⟩])))))))))
    (.seq (.seq (.region [1, 2, 16, 17, 18, 19, 20, 21, 22, 23, 37, 38, 39, 40, 41, 42, 43, 44, 57, 58, 59, 60, 61, 62, 63, 64] [⟨(some 65), .mov (.t 8), none⟩,
      ⟨(some 66), .bin .neq .no (.t 65) (.k (.c (.int .i64 0))), none⟩])
    (.cond (.t 66)
      (.goto 0)
      (.skip)))
    (.seq (.seq (.region [8, 65, 66] [⟨(some 67), .load (some 14) (.t 7), none⟩,
      ⟨none, .store (some 14) (.t 4) (.t 67), none⟩,
      ⟨(some 5), .mov (.k (.c (.int .i64 0))), none⟩])
    (.ret))
    (.seq (.label 0)
    (.seq (.region [7, 65, 66] [⟨(some 68), .build [(.c (.int .i64 0)), (.c (.slice none 0 0)), (.c (.int .i64 0)), (.c (.int .i64 0)), (.c (.slice none 0 0)), (.c (.bool false)), (.c (.int .i64 0)), (.c (.int .i64 0)), (.c (.bool false)), (.c (.bool false)), (.c (.int .i64 0)), (.c (.slice none 0 0)), (.c (.int .i64 0)), (.c (.slice none 0 0))] [], none⟩,
      ⟨(some 69), .mov (.t 8), none⟩,
      ⟨none, .store (some 14) (.t 4) (.t 68), none⟩,
      ⟨(some 5), .mov (.t 69), none⟩])
    (.ret))))))))) 0 sc11_0)
def fun11 : SFun := ⟨code11, 70, [.cell 4 (some 14), .tmp 5]⟩

/- 12 bowline/pdu.Write params #[23, 39] results #[29, 25] -/
def ann12 : Ann := ⟨[2, 3], [(1, [0, 1, 4, 5]), (2, [7, 8]), (3, [2, 3, 9, 10]), (4, [6, 9, 10]), (5, [2, 12, 13, 14, 15, 16, 17, 18, 19, 20]), (6, [3, 21, 22, 23, 24, 25, 26, 27, 28, 29, 30]), (7, [21, 22, 23, 24, 25, 26, 27, 28, 29, 30]), (8, [12, 13, 14, 15, 16, 17, 18, 19, 20]), (9, [34, 35, 36, 37, 38, 39, 40, 41, 42]), (10, [34, 35, 36, 37, 38, 39, 40, 41, 42]), (11, [50, 51, 52, 53, 54, 55, 56, 57, 58]), (12, [50, 51, 52, 53, 54, 55, 56, 57, 58]), (13, [66, 67, 68, 69, 70, 71, 72, 73, 74]), (14, [2, 3, 66, 67, 68, 69, 70, 71, 72, 73, 74])]⟩
def code12 : SCode :=
  .seq (.region [] [⟨(some 2), .lbox 10 (.t 0), none⟩,
    ⟨(some 3), .lbox 14 (.t 1), none⟩,
    ⟨(some 4), .mov (.k (.c (.slice none 0 0))), none⟩,
    ⟨(some 5), .mov (.k (.c (.int .i64 0))), none⟩])
  (.seq (.seq (.region [0, 1, 4, 5] [⟨(some 7), .load (some 10) (.t 2), none⟩,
    ⟨(some 8), .call 7 [(.t 7)], none⟩,
    ⟨(some 6), .mov (.t 8), none⟩])
  (.seq (.region [7, 8] [⟨(some 9), .mov (.t 6), none⟩,
    ⟨(some 10), .bin .neq .no (.t 9) (.k (.c (.int .i64 0))), none⟩])
  (.cond (.t 10)
    (.seq (.region [2, 3, 9, 10] [⟨(some 11), .mov (.t 6), none⟩,
      ⟨(some 4), .mov (.k (.c (.slice none 0 0))), none⟩,
      ⟨(some 5), .mov (.t 11), none⟩])
    (.ret))
    (.skip))))
  (.seq (.block 0 (.seq (.region [6, 9, 10] [⟨(some 13), .faddr 0 (.t 2), none⟩,
      ⟨(some 14), .load none (.t 13), none⟩,
      ⟨(some 15), .bin .eql .no (.t 14) (.k (.c (.int .i64 0))), none⟩,
      ⟨(some 16), .mov (.t 15), none⟩,
      ⟨(some 17), .faddr 0 (.t 3), some (16, true)⟩,
      ⟨(some 18), .load none (.t 17), some (16, true)⟩,
      ⟨(some 19), .bin .eql .no (.t 18) (.k (.c (.int .i64 0))), some (16, true)⟩,
      ⟨(some 20), .pick (.t 16) (.t 19) (.k (.c (.bool false))), none⟩,
      ⟨(some 12), .mov (.t 20), none⟩])
    (.cond (.t 12)
      (.seq (.seq (.region [2, 12, 13, 14, 15, 16, 17, 18, 19, 20] [⟨(some 21), .faddr 1 (.t 3), none⟩,
        ⟨(some 22), .load none (.t 21), none⟩,
        ⟨(some 23), .len .sl (.t 22), none⟩,
        ⟨(some 24), .bin .eql .no (.t 23) (.k (.c (.int .i64 0))), none⟩,
        ⟨(some 25), .mov (.t 24), none⟩,
        ⟨(some 26), .faddr 1 (.t 3), some (25, false)⟩,
        ⟨(some 27), .load none (.t 26), some (25, false)⟩,
        ⟨(some 28), .len .sl (.t 27), some (25, false)⟩,
        ⟨(some 29), .bin .gtr .no (.t 28) (.k (.c (.int .i64 1000))), some (25, false)⟩,
        ⟨(some 30), .pick (.t 25) (.k (.c (.bool true))) (.t 29), none⟩])
      (.cond (.t 30)
        (.seq (.region [3, 21, 22, 23, 24, 25, 26, 27, 28, 29, 30] [⟨(some 4), .mov (.k (.c (.slice none 0 0))), none⟩,
          ⟨(some 5), .mov (.k (.c (.int .i64 3))), none⟩])
        (.ret))
        (.skip)))
      (.seq (.region [21, 22, 23, 24, 25, 26, 27, 28, 29, 30] [⟨(some 31), .faddr 1 (.t 3), none⟩,
        ⟨(some 32), .load none (.t 31), none⟩,
        ⟨(some 33), .call 26 [(.t 32)], none⟩,
        ⟨(some 4), .mov (.t 33), none⟩,
        ⟨(some 5), .mov (.k (.c (.int .i64 0))), none⟩])
      (.ret)))
      (.seq (.region [12, 13, 14, 15, 16, 17, 18, 19, 20] [⟨(some 35), .faddr 0 (.t 2), none⟩,
        ⟨(some 36), .load none (.t 35), none⟩,
        ⟨(some 37), .bin .eql .no (.t 36) (.k (.c (.int .i64 1))), none⟩,
        ⟨(some 38), .mov (.t 37), none⟩,
        ⟨(some 39), .faddr 0 (.t 3), some (38, true)⟩,
        ⟨(some 40), .load none (.t 39), some (38, true)⟩,
        ⟨(some 41), .bin .eql .no (.t 40) (.k (.c (.int .i64 1))), some (38, true)⟩,
        ⟨(some 42), .pick (.t 38) (.t 41) (.k (.c (.bool false))), none⟩,
        ⟨(some 34), .mov (.t 42), none⟩])
      (.cond (.t 34)
        (.seq (.region [34, 35, 36, 37, 38, 39, 40, 41, 42] [⟨(some 43), .faddr 2 (.t 3), none⟩,
          ⟨(some 44), .load (some 3) (.t 43), none⟩,
          ⟨(some 45), .faddr 1 (.t 2), none⟩,
          ⟨(some 46), .load none (.t 45), none⟩,
          ⟨(some 47), .call 27 [(.t 44), (.t 46)], none⟩,
          ⟨(some 48), .ext (.t 47) 0, none⟩,
          ⟨(some 49), .ext (.t 47) 1, none⟩,
          ⟨(some 4), .mov (.t 48), none⟩,
          ⟨(some 5), .mov (.t 49), none⟩])
        (.ret))
        (.seq (.region [34, 35, 36, 37, 38, 39, 40, 41, 42] [⟨(some 51), .faddr 0 (.t 2), none⟩,
          ⟨(some 52), .load none (.t 51), none⟩,
          ⟨(some 53), .bin .eql .no (.t 52) (.k (.c (.int .i64 2))), none⟩,
          ⟨(some 54), .mov (.t 53), none⟩,
          ⟨(some 55), .faddr 0 (.t 3), some (54, true)⟩,
          ⟨(some 56), .load none (.t 55), some (54, true)⟩,
          ⟨(some 57), .bin .eql .no (.t 56) (.k (.c (.int .i64 2))), some (54, true)⟩,
          ⟨(some 58), .pick (.t 54) (.t 57) (.k (.c (.bool false))), none⟩,
          ⟨(some 50), .mov (.t 58), none⟩])
        (.cond (.t 50)
          (.seq (.region [50, 51, 52, 53, 54, 55, 56, 57, 58] [⟨(some 59), .faddr 5 (.t 3), none⟩,
            ⟨(some 60), .load (some 7) (.t 59), none⟩,
            ⟨(some 61), .faddr 1 (.t 2), none⟩,
            ⟨(some 62), .load none (.t 61), none⟩,
            ⟨(some 63), .call 28 [(.t 60), (.t 62)], none⟩,
            ⟨(some 64), .ext (.t 63) 0, none⟩,
            ⟨(some 65), .ext (.t 63) 1, none⟩,
            ⟨(some 4), .mov (.t 64), none⟩,
            ⟨(some 5), .mov (.t 65), none⟩])
          (.ret))
          (.seq (.region [50, 51, 52, 53, 54, 55, 56, 57, 58] [⟨(some 67), .faddr 0 (.t 2), none⟩,
            ⟨(some 68), .load none (.t 67), none⟩,
            ⟨(some 69), .bin .eql .no (.t 68) (.k (.c (.int .i64 2))), none⟩,
            ⟨(some 70), .mov (.t 69), none⟩,
            ⟨(some 71), .faddr 0 (.t 3), some (70, true)⟩,
            ⟨(some 72), .load none (.t 71), some (70, true)⟩,
            ⟨(some 73), .bin .eql .no (.t 72) (.k (.c (.int .i64 3))), some (70, true)⟩,
            ⟨(some 74), .pick (.t 70) (.t 73) (.k (.c (.bool false))), none⟩,
            ⟨(some 66), .mov (.t 74), none⟩])
          (.cond (.t 66)
            (.seq (.region [66, 67, 68, 69, 70, 71, 72, 73, 74] [⟨(some 75), .faddr 12 (.t 3), none⟩,
              ⟨(some 76), .load (some 2) (.t 75), none⟩,
              ⟨(some 77), .faddr 1 (.t 2), none⟩,
              ⟨(some 78), .load none (.t 77), none⟩,
              ⟨(some 79), .call 29 [(.t 76), (.t 78)], none⟩,
              ⟨(some 80), .ext (.t 79) 0, none⟩,
              ⟨(some 81), .ext (.t 79) 1, none⟩,
              ⟨(some 4), .mov (.t 80), none⟩,
              ⟨(some 5), .mov (.t 81), none⟩])
            (.ret))
            (.skip))))))))))
  (.seq (.region [2, 3, 66, 67, 68, 69, 70, 71, 72, 73, 74] [⟨(some 4), .mov (.k (.c (.slice none 0 0))), none⟩,
    ⟨(some 5), .mov (.k (.c (.int .i64 7))), none⟩])
  (.ret))))
def fun12 : SFun := ⟨code12, 82, [.tmp 4, .tmp 5]⟩

/- 13 bowline/bowlineref12.Same params #[52, 52] results #[4] -/
def ann13 : Ann := ⟨[2, 3], [(1, [0, 1, 4])]⟩
def code13 : SCode :=
  .seq (.region [] [⟨(some 2), .lbox 14 (.t 0), none⟩,
    ⟨(some 3), .lbox 14 (.t 1), none⟩,
    ⟨(some 4), .mov (.k (.c (.bool false))), none⟩])
  (.seq (.region [0, 1, 4] [⟨(some 5), .faddr 0 (.t 2), none⟩,
    ⟨(some 6), .load none (.t 5), none⟩,
    ⟨(some 7), .faddr 0 (.t 3), none⟩,
    ⟨(some 8), .load none (.t 7), none⟩,
    ⟨(some 9), .bin .eql .no (.t 6) (.t 8), none⟩,
    ⟨(some 10), .mov (.t 9), none⟩,
    ⟨(some 11), .faddr 1 (.t 2), some (10, true)⟩,
    ⟨(some 12), .load none (.t 11), some (10, true)⟩,
    ⟨(some 13), .conv .toStr (.t 12), some (10, true)⟩,
    ⟨(some 14), .faddr 1 (.t 3), some (10, true)⟩,
    ⟨(some 15), .load none (.t 14), some (10, true)⟩,
    ⟨(some 16), .conv .toStr (.t 15), some (10, true)⟩,
    ⟨(some 17), .bin .eql .no (.t 13) (.t 16), some (10, true)⟩,
    ⟨(some 18), .pick (.t 10) (.t 17) (.k (.c (.bool false))), none⟩,
    ⟨(some 19), .mov (.t 18), none⟩,
    ⟨(some 20), .faddr 2 (.t 2), some (19, true)⟩,
    ⟨(some 21), .load (some 3) (.t 20), some (19, true)⟩,
    ⟨(some 22), .faddr 2 (.t 3), some (19, true)⟩,
    ⟨(some 23), .load (some 3) (.t 22), some (19, true)⟩,
    ⟨(some 24), .call 30 [(.t 21), (.t 23)], some (19, true)⟩,
    ⟨(some 25), .pick (.t 19) (.t 24) (.k (.c (.bool false))), none⟩,
    ⟨(some 26), .mov (.t 25), none⟩,
    ⟨(some 27), .faddr 5 (.t 2), some (26, true)⟩,
    ⟨(some 28), .load (some 7) (.t 27), some (26, true)⟩,
    ⟨(some 29), .faddr 5 (.t 3), some (26, true)⟩,
    ⟨(some 30), .load (some 7) (.t 29), some (26, true)⟩,
    ⟨(some 31), .call 31 [(.t 28), (.t 30)], some (26, true)⟩,
    ⟨(some 32), .pick (.t 26) (.t 31) (.k (.c (.bool false))), none⟩,
    ⟨(some 33), .mov (.t 32), none⟩,
    ⟨(some 34), .faddr 12 (.t 2), some (33, true)⟩,
    ⟨(some 35), .load (some 2) (.t 34), some (33, true)⟩,
    ⟨(some 36), .faddr 12 (.t 3), some (33, true)⟩,
    ⟨(some 37), .load (some 2) (.t 36), some (33, true)⟩,
    ⟨(some 38), .call 32 [(.t 35), (.t 37)], some (33, true)⟩,
    ⟨(some 39), .pick (.t 33) (.t 38) (.k (.c (.bool false))), none⟩,
    ⟨(some 4), .mov (.t 39), none⟩])
  (.ret))
def fun13 : SFun := ⟨code13, 40, [.tmp 4]⟩

/- 14 bowline/bowlinelaw12.As params #[39] results #[52] -/
def ann14 : Ann := ⟨[1, 2], [(1, [0])]⟩
def code14 : SCode :=
  .seq (.region [] [⟨(some 1), .lbox 14 (.t 0), none⟩,
    ⟨(some 2), .lnew [(.c (.int .i64 0)), (.c (.slice none 0 0)), (.c (.int .i64 0)), (.c (.int .i64 0)), (.c (.slice none 0 0)), (.c (.bool false)), (.c (.int .i64 0)), (.c (.int .i64 0)), (.c (.bool false)), (.c (.bool false)), (.c (.int .i64 0)), (.c (.slice none 0 0)), (.c (.int .i64 0)), (.c (.slice none 0 0))], none⟩])
  (.seq (.drawn [0] [⟨0, ⟨(some 3), .faddr 0 (.t 1), none⟩, []⟩,
    ⟨1, ⟨(some 4), .load none (.t 3), none⟩, []⟩,
    ⟨2, ⟨(some 5), .faddr 1 (.t 1), none⟩, []⟩,
    ⟨3, ⟨(some 6), .load none (.t 5), none⟩, []⟩,
    ⟨4, ⟨(some 7), .faddr 2 (.t 1), none⟩, []⟩,
    ⟨5, ⟨(some 8), .faddr 0 (.t 7), none⟩, []⟩,
    ⟨6, ⟨(some 9), .load none (.t 8), none⟩, []⟩,
    ⟨7, ⟨(some 10), .faddr 2 (.t 1), none⟩, []⟩,
    ⟨8, ⟨(some 11), .faddr 1 (.t 10), none⟩, []⟩,
    ⟨9, ⟨(some 12), .load none (.t 11), none⟩, []⟩,
    ⟨10, ⟨(some 13), .faddr 2 (.t 1), none⟩, []⟩,
    ⟨11, ⟨(some 14), .faddr 2 (.t 13), none⟩, []⟩,
    ⟨12, ⟨(some 15), .load none (.t 14), none⟩, []⟩,
    ⟨13, ⟨(some 16), .build [(.c (.int .i64 0)), (.c (.int .i64 0)), (.c (.slice none 0 0))] [(0, 1, (.t 9)), (1, 1, (.t 12)), (2, 1, (.t 15))], none⟩, []⟩,
    ⟨14, ⟨(some 17), .faddr 5 (.t 1), none⟩, []⟩,
    ⟨15, ⟨(some 18), .load (some 7) (.t 17), none⟩, []⟩,
    ⟨17, ⟨(some 20), .faddr 12 (.t 1), none⟩, []⟩,
    ⟨18, ⟨(some 21), .load (some 2) (.t 20), none⟩, []⟩,
    ⟨16, ⟨(some 19), .call 33 [(.t 18)], none⟩, [1, 3, 6, 9, 12, 18]⟩,
    ⟨19, ⟨(some 22), .call 34 [(.t 21)], none⟩, [1, 3, 6, 9, 12]⟩,
    ⟨20, ⟨(some 23), .build [(.c (.int .i64 0)), (.c (.slice none 0 0)), (.c (.int .i64 0)), (.c (.int .i64 0)), (.c (.slice none 0 0)), (.c (.bool false)), (.c (.int .i64 0)), (.c (.int .i64 0)), (.c (.bool false)), (.c (.bool false)), (.c (.int .i64 0)), (.c (.slice none 0 0)), (.c (.int .i64 0)), (.c (.slice none 0 0))] [(0, 1, (.t 4)), (1, 1, (.t 6)), (2, 3, (.t 16)), (5, 7, (.t 19)), (12, 2, (.t 22))], none⟩, []⟩,
    ⟨21, ⟨none, .store (some 14) (.t 2) (.t 23), none⟩, []⟩])
  (.ret))
def fun14 : SFun := ⟨code14, 24, [.cell 2 (some 14)]⟩

/- 15 bowline/pdu.isTM params #[23] results #[4] -/
def ann15 : Ann := ⟨[1], [(1, [0, 2])]⟩
def code15 : SCode :=
  .seq (.region [] [⟨(some 1), .lbox 10 (.t 0), none⟩,
    ⟨(some 2), .mov (.k (.c (.bool false))), none⟩])
  (.seq (.region [0, 2] [⟨(some 3), .load (some 10) (.t 1), none⟩,
    ⟨(some 4), .faddr 9 (.t 1), none⟩,
    ⟨(some 5), .load none (.t 4), none⟩,
    ⟨(some 6), .build [(.c (.int .i64 0)), (.c (.int .i64 0)), (.c (.int .i64 0)), (.c (.int .i64 0)), (.c (.int .i64 0)), (.c (.int .i64 0)), (.c (.int .i64 0)), (.c (.int .i64 0)), (.c (.int .i64 0)), (.c (.int .i64 0))] [(9, 1, (.t 5))], none⟩,
    ⟨(some 7), .bin .eql (.agg [.i, .i, .i, .i, .i, .i, .i, .i, .i, .i]) (.t 3) (.t 6), none⟩,
    ⟨(some 2), .mov (.t 7), none⟩])
  (.ret))
def fun15 : SFun := ⟨code15, 8, [.tmp 2]⟩

/- 16 bowline/pdu.isUM params #[23] results #[4] -/
def ann16 : Ann := ⟨[1, 3], [(1, [0, 2]), (2, [1, 4, 5, 6, 7, 8, 9, 10, 11]), (3, [4, 5, 6, 7, 8, 9, 10, 11]), (4, [12, 13, 14, 15, 16, 17, 18, 19, 20])]⟩
def code16 : SCode :=
  .seq (.region [] [⟨(some 1), .lbox 10 (.t 0), none⟩,
    ⟨(some 2), .mov (.k (.c (.bool false))), none⟩])
  (.seq (.seq (.region [0, 2] [⟨(some 4), .faddr 1 (.t 1), none⟩,
    ⟨(some 5), .load none (.t 4), none⟩,
    ⟨(some 6), .bin .neq .no (.t 5) (.k (.c (.int .i64 5))), none⟩,
    ⟨(some 7), .mov (.t 6), none⟩,
    ⟨(some 8), .faddr 1 (.t 1), some (7, true)⟩,
    ⟨(some 9), .load none (.t 8), some (7, true)⟩,
    ⟨(some 10), .bin .neq .no (.t 9) (.k (.c (.int .i64 10))), some (7, true)⟩,
    ⟨(some 11), .pick (.t 7) (.t 10) (.k (.c (.bool false))), none⟩])
  (.cond (.t 11)
    (.seq (.region [1, 4, 5, 6, 7, 8, 9, 10, 11] [⟨(some 2), .mov (.k (.c (.bool false))), none⟩])
    (.ret))
    (.skip)))
  (.seq (.region [4, 5, 6, 7, 8, 9, 10, 11] [⟨(some 12), .faddr 1 (.t 1), none⟩,
    ⟨(some 13), .load none (.t 12), none⟩,
    ⟨(some 14), .faddr 2 (.t 1), none⟩,
    ⟨(some 15), .load none (.t 14), none⟩,
    ⟨(some 16), .faddr 3 (.t 1), none⟩,
    ⟨(some 17), .load none (.t 16), none⟩,
    ⟨(some 18), .faddr 9 (.t 1), none⟩,
    ⟨(some 19), .load none (.t 18), none⟩,
    ⟨(some 20), .build [(.c (.int .i64 0)), (.c (.int .i64 0)), (.c (.int .i64 0)), (.c (.int .i64 0)), (.c (.int .i64 0)), (.c (.int .i64 0)), (.c (.int .i64 0)), (.c (.int .i64 0)), (.c (.int .i64 0)), (.c (.int .i64 0))] [(0, 1, (.k (.c (.int .i64 1)))), (1, 1, (.t 13)), (2, 1, (.t 15)), (3, 1, (.t 17)), (9, 1, (.t 19))], none⟩,
    ⟨(some 3), .lnew [(.c (.int .i64 0)), (.c (.int .i64 0)), (.c (.int .i64 0)), (.c (.int .i64 0)), (.c (.int .i64 0)), (.c (.int .i64 0)), (.c (.int .i64 0)), (.c (.int .i64 0)), (.c (.int .i64 0)), (.c (.int .i64 0))], none⟩,
    ⟨none, .store (some 10) (.t 3) (.t 20), none⟩])
  (.seq (.drawn [12, 13, 14, 15, 16, 17, 18, 19, 20] [⟨0, ⟨(some 21), .load (some 10) (.t 1), none⟩, []⟩,
    ⟨1, ⟨(some 22), .load (some 10) (.t 3), none⟩, []⟩,
    ⟨2, ⟨(some 23), .bin .eql (.agg [.i, .i, .i, .i, .i, .i, .i, .i, .i, .i]) (.t 21) (.t 22), none⟩, []⟩,
    ⟨3, ⟨(some 24), .mov (.t 23), none⟩, []⟩,
    ⟨4, ⟨(some 25), .faddr 2 (.t 1), some (24, true)⟩, []⟩,
    ⟨5, ⟨(some 26), .load none (.t 25), some (24, true)⟩, []⟩,
    ⟨6, ⟨(some 27), .faddr 1 (.t 1), some (24, true)⟩, []⟩,
    ⟨7, ⟨(some 28), .load none (.t 27), some (24, true)⟩, []⟩,
    ⟨8, ⟨(some 29), .bin .sub .no (.t 28) (.k (.c (.int .i64 1))), some (24, true)⟩, []⟩,
    ⟨9, ⟨(some 30), .bin .shl .no (.k (.c (.int .i64 1))) (.t 29), some (24, true)⟩, []⟩,
    ⟨10, ⟨(some 31), .build [(.c (.int .i64 0)), (.c (.int .i64 0)), (.c (.int .i64 0))] [(0, 1, (.t 26)), (1, 1, (.k (.c (.int .i64 1)))), (2, 1, (.t 30))], some (24, true)⟩, []⟩,
    ⟨11, ⟨(some 32), .faddr 3 (.t 1), some (24, true)⟩, []⟩,
    ⟨12, ⟨(some 33), .load none (.t 32), some (24, true)⟩, []⟩,
    ⟨13, ⟨(some 34), .build [(.c (.int .i64 0)), (.c (.int .i64 0)), (.c (.int .i64 0))] [(0, 1, (.t 33)), (1, 1, (.k (.c (.int .i64 1)))), (2, 1, (.k (.c (.int .i64 1000))))], some (24, true)⟩, []⟩,
    ⟨14, ⟨(some 35), .bslice 2 3 [(.c (.int .i64 0)), (.c (.int .i64 0)), (.c (.int .i64 0)), (.c (.int .i64 0)), (.c (.int .i64 0)), (.c (.int .i64 0))] [(0, 3, (.t 31)), (3, 3, (.t 34))], some (24, true)⟩, []⟩,
    ⟨15, ⟨(some 36), .call 18 [(.t 35)], some (24, true)⟩, []⟩,
    ⟨16, ⟨(some 37), .pick (.t 24) (.t 36) (.k (.c (.bool false))), none⟩, []⟩,
    ⟨17, ⟨(some 2), .mov (.t 37), none⟩, []⟩])
  (.ret))))
def fun16 : SFun := ⟨code16, 38, [.tmp 2]⟩

/- 17 bowline/pdu.isAM params #[23] results #[4] -/
def ann17 : Ann := ⟨[1], [(1, [0, 2]), (2, [1, 3, 4, 5, 6, 7, 8, 9, 10]), (3, [3, 4, 5, 6, 7, 8, 9, 10])]⟩
def code17 : SCode :=
  .seq (.region [] [⟨(some 1), .lbox 10 (.t 0), none⟩,
    ⟨(some 2), .mov (.k (.c (.bool false))), none⟩])
  (.seq (.seq (.region [0, 2] [⟨(some 3), .faddr 1 (.t 1), none⟩,
    ⟨(some 4), .load none (.t 3), none⟩,
    ⟨(some 5), .bin .neq .no (.t 4) (.k (.c (.int .i64 10))), none⟩,
    ⟨(some 6), .mov (.t 5), none⟩,
    ⟨(some 7), .faddr 1 (.t 1), some (6, true)⟩,
    ⟨(some 8), .load none (.t 7), some (6, true)⟩,
    ⟨(some 9), .bin .neq .no (.t 8) (.k (.c (.int .i64 16))), some (6, true)⟩,
    ⟨(some 10), .pick (.t 6) (.t 9) (.k (.c (.bool false))), none⟩])
  (.cond (.t 10)
    (.seq (.region [1, 3, 4, 5, 6, 7, 8, 9, 10] [⟨(some 2), .mov (.k (.c (.bool false))), none⟩])
    (.ret))
    (.skip)))
  (.seq (.drawn [3, 4, 5, 6, 7, 8, 9, 10] [⟨0, ⟨(some 11), .faddr 2 (.t 1), none⟩, []⟩,
    ⟨1, ⟨(some 12), .load none (.t 11), none⟩, []⟩,
    ⟨2, ⟨(some 13), .faddr 1 (.t 1), none⟩, []⟩,
    ⟨3, ⟨(some 14), .load none (.t 13), none⟩, []⟩,
    ⟨4, ⟨(some 15), .bin .sub .no (.t 14) (.k (.c (.int .i64 1))), none⟩, []⟩,
    ⟨5, ⟨(some 16), .bin .shl .no (.k (.c (.int .i64 1))) (.t 15), none⟩, []⟩,
    ⟨6, ⟨(some 17), .build [(.c (.int .i64 0)), (.c (.int .i64 0)), (.c (.int .i64 0))] [(0, 1, (.t 12)), (1, 1, (.k (.c (.int .i64 1)))), (2, 1, (.t 16))], none⟩, []⟩,
    ⟨7, ⟨(some 18), .faddr 3 (.t 1), none⟩, []⟩,
    ⟨8, ⟨(some 19), .load none (.t 18), none⟩, []⟩,
    ⟨9, ⟨(some 20), .build [(.c (.int .i64 0)), (.c (.int .i64 0)), (.c (.int .i64 0))] [(0, 1, (.t 19)), (1, 1, (.k (.c (.int .i64 1)))), (2, 1, (.k (.c (.int .i64 1000))))], none⟩, []⟩,
    ⟨10, ⟨(some 21), .faddr 4 (.t 1), none⟩, []⟩,
    ⟨11, ⟨(some 22), .load none (.t 21), none⟩, []⟩,
    ⟨12, ⟨(some 23), .build [(.c (.int .i64 0)), (.c (.int .i64 0)), (.c (.int .i64 0))] [(0, 1, (.t 22)), (1, 1, (.k (.c (.int .i64 1)))), (2, 1, (.k (.c (.int .i64 1000))))], none⟩, []⟩,
    ⟨13, ⟨(some 24), .faddr 5 (.t 1), none⟩, []⟩,
    ⟨14, ⟨(some 25), .load none (.t 24), none⟩, []⟩,
    ⟨15, ⟨(some 26), .build [(.c (.int .i64 0)), (.c (.int .i64 0)), (.c (.int .i64 0))] [(0, 1, (.t 25)), (1, 1, (.k (.c (.int .i64 0)))), (2, 1, (.k (.c (.int .i64 1000))))], none⟩, []⟩,
    ⟨16, ⟨(some 27), .faddr 6 (.t 1), none⟩, []⟩,
    ⟨17, ⟨(some 28), .load none (.t 27), none⟩, []⟩,
    ⟨18, ⟨(some 29), .build [(.c (.int .i64 0)), (.c (.int .i64 0)), (.c (.int .i64 0))] [(0, 1, (.t 28)), (1, 1, (.k (.c (.int .i64 1)))), (2, 1, (.k (.c (.int .i64 1000))))], none⟩, []⟩,
    ⟨19, ⟨(some 30), .faddr 7 (.t 1), none⟩, []⟩,
    ⟨20, ⟨(some 31), .load none (.t 30), none⟩, []⟩,
    ⟨21, ⟨(some 32), .build [(.c (.int .i64 0)), (.c (.int .i64 0)), (.c (.int .i64 0))] [(0, 1, (.t 31)), (1, 1, (.k (.c (.int .i64 1)))), (2, 1, (.k (.c (.int .i64 20000))))], none⟩, []⟩,
    ⟨22, ⟨(some 33), .faddr 8 (.t 1), none⟩, []⟩,
    ⟨23, ⟨(some 34), .load none (.t 33), none⟩, []⟩,
    ⟨24, ⟨(some 35), .build [(.c (.int .i64 0)), (.c (.int .i64 0)), (.c (.int .i64 0))] [(0, 1, (.t 34)), (1, 1, (.k (.c (.int .i64 1)))), (2, 1, (.k (.c (.int .i64 32))))], none⟩, []⟩,
    ⟨25, ⟨(some 36), .bslice 7 3 [(.c (.int .i64 0)), (.c (.int .i64 0)), (.c (.int .i64 0)), (.c (.int .i64 0)), (.c (.int .i64 0)), (.c (.int .i64 0)), (.c (.int .i64 0)), (.c (.int .i64 0)), (.c (.int .i64 0)), (.c (.int .i64 0)), (.c (.int .i64 0)), (.c (.int .i64 0)), (.c (.int .i64 0)), (.c (.int .i64 0)), (.c (.int .i64 0)), (.c (.int .i64 0)), (.c (.int .i64 0)), (.c (.int .i64 0)), (.c (.int .i64 0)), (.c (.int .i64 0)), (.c (.int .i64 0))] [(0, 3, (.t 17)), (3, 3, (.t 20)), (6, 3, (.t 23)), (9, 3, (.t 26)), (12, 3, (.t 29)), (15, 3, (.t 32)), (18, 3, (.t 35))], none⟩, []⟩,
    ⟨26, ⟨(some 37), .call 18 [(.t 36)], none⟩, []⟩,
    ⟨27, ⟨(some 2), .mov (.t 37), none⟩, []⟩])
  (.ret)))
def fun17 : SFun := ⟨code17, 38, [.tmp 2]⟩

/- 18 bowline/pdu.within params #[78] results #[4] -/
def ann18 : Ann := ⟨[], [(1, [2])]⟩
def code18 : SCode :=
  .seq (.region [] [⟨(some 2), .mov (.k (.c (.bool false))), none⟩])
  (.seq (.region [2] [⟨(some 3), .mov (.t 0), none⟩,
    ⟨(some 4), .call 35 [(.t 3), (.k (.fn 36 []))], none⟩,
    ⟨(some 5), .un .not (.t 4), none⟩,
    ⟨(some 2), .mov (.t 5), none⟩])
  (.ret))
def fun18 : SFun := ⟨code18, 6, [.tmp 2]⟩

/- 19 bowline/bowlineref12.is params #[3, 3, 3] results #[4] -/
def ann19 : Ann := ⟨[], [(1, [6])]⟩
def code19 : SCode :=
  .seq (.region [] [⟨(some 6), .mov (.k (.c (.bool false))), none⟩])
  (.seq (.region [6] [⟨(some 7), .mov (.t 0), none⟩,
    ⟨(some 8), .mov (.t 1), none⟩,
    ⟨(some 9), .bin .geq .no (.t 7) (.t 8), none⟩,
    ⟨(some 10), .mov (.t 9), none⟩,
    ⟨(some 11), .mov (.t 0), some (10, true)⟩,
    ⟨(some 12), .mov (.t 2), some (10, true)⟩,
    ⟨(some 13), .bin .leq .no (.t 11) (.t 12), some (10, true)⟩,
    ⟨(some 14), .pick (.t 10) (.t 13) (.k (.c (.bool false))), none⟩,
    ⟨(some 6), .mov (.t 14), none⟩])
  (.ret))
def fun19 : SFun := ⟨code19, 15, [.tmp 6]⟩

/- 20 bowline/bowlineref02.Size params #[3] results #[3] -/
def ann20 : Ann := ⟨[], [(1, [2]), (2, [0, 5, 6, 7, 8, 9, 10]), (3, [5, 6, 7, 8, 9, 10]), (5, [14, 15]), (7, [11, 12, 13]), (6, [16, 17]), (8, [0, 4, 11, 12, 13])]⟩
def lp20_0 : SCode :=
  .seq (.seq (.region [14, 15] [⟨(some 11), .mov (.t 4), none⟩,
    ⟨(some 12), .mov (.t 0), none⟩,
    ⟨(some 13), .bin .lss .no (.t 11) (.t 12), none⟩])
  (.cond (.t 13)
    (.skip)
    (.exit 0)))
  (.seq (.block 1 (.region [11, 12, 13] [⟨(some 16), .mov (.t 3), none⟩,
      ⟨(some 17), .bin .mul .no (.k (.c (.int .i64 2))) (.t 16), none⟩,
      ⟨(some 3), .mov (.t 17), none⟩]))
  (.region [16, 17] [⟨(some 14), .mov (.t 4), none⟩,
    ⟨(some 15), .bin .add .no (.t 14) (.k (.c (.int .i64 1))), none⟩,
    ⟨(some 4), .mov (.t 15), none⟩]))
def code20 : SCode :=
  .seq (.region [] [⟨(some 2), .mov (.k (.c (.int .i64 0))), none⟩])
  (.seq (.seq (.region [2] [⟨(some 5), .mov (.t 0), none⟩,
    ⟨(some 6), .bin .lss .no (.t 5) (.k (.c (.int .i64 1))), none⟩,
    ⟨(some 7), .mov (.t 6), none⟩,
    ⟨(some 8), .mov (.t 0), some (7, false)⟩,
    ⟨(some 9), .bin .gtr .no (.t 8) (.k (.c (.int .i64 16))), some (7, false)⟩,
    ⟨(some 10), .pick (.t 7) (.k (.c (.bool true))) (.t 9), none⟩])
  (.cond (.t 10)
    (.seq (.region [0, 5, 6, 7, 8, 9, 10] [⟨(some 2), .mov (.k (.c (.int .i64 0))), none⟩])
    (.ret))
    (.skip)))
  (.seq (.region [5, 6, 7, 8, 9, 10] [⟨(some 3), .mov (.k (.c (.int .i64 1))), none⟩])
  (.seq (.seq (.region [] [⟨(some 4), .mov (.k (.c (.int .i64 0))), none⟩])
  (.block 0 (.loop lp20_0)))
  (.seq (.region [0, 4, 11, 12, 13] [⟨(some 18), .mov (.t 3), none⟩,
    ⟨(some 2), .mov (.t 18), none⟩])
  (.ret)))))
def fun20 : SFun := ⟨code20, 19, [.tmp 2]⟩

/- 21 bowline/bowlinelaw09.Great params #[30] results #[4] -/
def ann21 : Ann := ⟨[], [(1, [2]), (3, [9, 10]), (5, [5, 6, 7, 8]), (6, [0, 3, 4, 11, 12, 13, 14, 15, 16, 17, 18, 19, 20, 21]), (7, [11, 12, 13, 14, 15, 16, 17, 18, 19, 20, 21]), (4, [22, 23, 24, 25, 26, 27, 28]), (8, [0, 4, 5, 6, 7, 8])]⟩
def lp21_0 : SCode :=
  .seq (.seq (.region [9, 10] [⟨(some 5), .mov (.t 4), none⟩,
    ⟨(some 6), .mov (.t 0), none⟩,
    ⟨(some 7), .len .sl (.t 6), none⟩,
    ⟨(some 8), .bin .lss .no (.t 5) (.t 7), none⟩])
  (.cond (.t 8)
    (.skip)
    (.exit 0)))
  (.seq (.block 1 (.seq (.seq (.region [5, 6, 7, 8] [⟨(some 11), .mov (.t 0), none⟩,
      ⟨(some 12), .len .sl (.t 11), none⟩,
      ⟨(some 13), .bin .gtr .no (.t 12) (.k (.c (.int .i64 40))), none⟩,
      ⟨(some 14), .mov (.t 13), none⟩,
      ⟨(some 15), .mov (.t 0), some (14, false)⟩,
      ⟨(some 16), .mov (.t 4), some (14, false)⟩,
      ⟨(some 17), .iaddr 1 none (.t 15) (.t 16), some (14, false)⟩,
      ⟨(some 18), .load none (.t 17), some (14, false)⟩,
      ⟨(some 19), .len .sl (.t 18), some (14, false)⟩,
      ⟨(some 20), .bin .gtr .no (.t 19) (.k (.c (.int .i64 4200))), some (14, false)⟩,
      ⟨(some 21), .pick (.t 14) (.k (.c (.bool true))) (.t 20), none⟩])
    (.cond (.t 21)
      (.seq (.region [0, 3, 4, 11, 12, 13, 14, 15, 16, 17, 18, 19, 20, 21] [⟨(some 2), .mov (.k (.c (.bool true))), none⟩])
      (.ret))
      (.skip)))
    (.region [11, 12, 13, 14, 15, 16, 17, 18, 19, 20, 21] [⟨(some 22), .mov (.t 3), none⟩,
      ⟨(some 23), .mov (.t 0), none⟩,
      ⟨(some 24), .mov (.t 4), none⟩,
      ⟨(some 25), .iaddr 1 none (.t 23) (.t 24), none⟩,
      ⟨(some 26), .load none (.t 25), none⟩,
      ⟨(some 27), .len .sl (.t 26), none⟩,
      ⟨(some 28), .bin .add .no (.t 22) (.t 27), none⟩,
      ⟨(some 3), .mov (.t 28), none⟩])))
  (.region [22, 23, 24, 25, 26, 27, 28] [⟨(some 9), .mov (.t 4), none⟩,
    ⟨(some 10), .bin .add .no (.t 9) (.k (.c (.int .i64 1))), none⟩,
    ⟨(some 4), .mov (.t 10), none⟩]))
def code21 : SCode :=
  .seq (.region [] [⟨(some 2), .mov (.k (.c (.bool false))), none⟩])
  (.seq (.region [2] [⟨(some 3), .mov (.k (.c (.int .i64 0))), none⟩])
  (.seq (.seq (.region [] [⟨(some 4), .mov (.k (.c (.int .i64 0))), none⟩])
  (.block 0 (.loop lp21_0)))
  (.seq (.region [0, 4, 5, 6, 7, 8] [⟨(some 29), .mov (.t 3), none⟩,
    ⟨(some 30), .bin .gtr .no (.t 29) (.k (.c (.int .i64 9000))), none⟩,
    ⟨(some 2), .mov (.t 30), none⟩])
  (.ret))))
def fun21 : SFun := ⟨code21, 31, [.tmp 2]⟩

/- 22 bowline/pdu.readRaw params #[29] results #[39, 25] -/
def ann22 : Ann := ⟨[2], [(1, [3]), (2, [0, 4, 5, 6, 7]), (3, [4, 5, 6, 7]), (4, [0, 9, 10, 11, 12]), (5, [9, 10, 11, 12])]⟩
def code22 : SCode :=
  .seq (.region [] [⟨(some 2), .lnew [(.c (.int .i64 0)), (.c (.slice none 0 0)), (.c (.int .i64 0)), (.c (.int .i64 0)), (.c (.slice none 0 0)), (.c (.bool false)), (.c (.int .i64 0)), (.c (.int .i64 0)), (.c (.bool false)), (.c (.bool false)), (.c (.int .i64 0)), (.c (.slice none 0 0)), (.c (.int .i64 0)), (.c (.slice none 0 0))], none⟩,
    ⟨(some 3), .mov (.k (.c (.int .i64 0))), none⟩])
  (.seq (.block 0 (.seq (.region [3] [⟨(some 5), .mov (.t 0), none⟩,
      ⟨(some 6), .len .sl (.t 5), none⟩,
      ⟨(some 7), .bin .eql .no (.t 6) (.k (.c (.int .i64 0))), none⟩,
      ⟨(some 4), .mov (.t 7), none⟩])
    (.cond (.t 4)
      (.seq (.region [0, 4, 5, 6, 7] [⟨(some 8), .build [(.c (.int .i64 0)), (.c (.slice none 0 0)), (.c (.int .i64 0)), (.c (.int .i64 0)), (.c (.slice none 0 0)), (.c (.bool false)), (.c (.int .i64 0)), (.c (.int .i64 0)), (.c (.bool false)), (.c (.bool false)), (.c (.int .i64 0)), (.c (.slice none 0 0)), (.c (.int .i64 0)), (.c (.slice none 0 0))] [], none⟩,
        ⟨none, .store (some 14) (.t 2) (.t 8), none⟩,
        ⟨(some 3), .mov (.k (.c (.int .i64 8))), none⟩])
      (.ret))
      (.seq (.region [4, 5, 6, 7] [⟨(some 10), .mov (.t 0), none⟩,
        ⟨(some 11), .len .sl (.t 10), none⟩,
        ⟨(some 12), .bin .gtr .no (.t 11) (.k (.c (.int .i64 1000))), none⟩,
        ⟨(some 9), .mov (.t 12), none⟩])
      (.cond (.t 9)
        (.seq (.region [0, 9, 10, 11, 12] [⟨(some 13), .build [(.c (.int .i64 0)), (.c (.slice none 0 0)), (.c (.int .i64 0)), (.c (.int .i64 0)), (.c (.slice none 0 0)), (.c (.bool false)), (.c (.int .i64 0)), (.c (.int .i64 0)), (.c (.bool false)), (.c (.bool false)), (.c (.int .i64 0)), (.c (.slice none 0 0)), (.c (.int .i64 0)), (.c (.slice none 0 0))] [], none⟩,
          ⟨none, .store (some 14) (.t 2) (.t 13), none⟩,
          ⟨(some 3), .mov (.k (.c (.int .i64 2))), none⟩])
        (.ret))
        (.skip))))))
  (.seq (.region [9, 10, 11, 12] [⟨(some 14), .mov (.t 0), none⟩,
    ⟨(some 15), .call 26 [(.t 14)], none⟩,
    ⟨(some 16), .build [(.c (.int .i64 0)), (.c (.slice none 0 0)), (.c (.int .i64 0)), (.c (.int .i64 0)), (.c (.slice none 0 0)), (.c (.bool false)), (.c (.int .i64 0)), (.c (.int .i64 0)), (.c (.bool false)), (.c (.bool false)), (.c (.int .i64 0)), (.c (.slice none 0 0)), (.c (.int .i64 0)), (.c (.slice none 0 0))] [(1, 1, (.t 15))], none⟩,
    ⟨none, .store (some 14) (.t 2) (.t 16), none⟩,
    ⟨(some 3), .mov (.k (.c (.int .i64 0))), none⟩])
  (.ret)))
def fun22 : SFun := ⟨code22, 17, [.cell 2 (some 14), .tmp 3]⟩

/- 23 bowline/umd.Read params #[29, 3] results #[32, 25] -/
def ann23 : Ann := ⟨[4], [(1, [5]), (2, [0, 1, 22, 23, 24, 25]), (3, [22, 23, 24, 25]), (4, [0, 1, 27, 28, 29, 30]), (5, [27, 28, 29, 30]), (6, [0, 1, 32, 33, 34, 35, 36, 37]), (7, [32, 33, 34, 35, 36, 37]), (8, [39, 40]), (9, [8, 41, 42, 43, 44, 45, 46, 47, 48, 49, 50, 51]), (10, [10, 52, 53, 54, 55, 56]), (11, [12, 57, 58, 59, 60, 61]), (12, [6, 14, 62, 63, 64, 65, 66, 67]), (13, [0, 1, 7, 9, 11, 13, 68, 69]), (14, [7, 68, 69]), (15, [0, 1, 71, 72, 73, 74]), (17, [11, 16, 75, 76]), (18, [77, 78, 79, 80, 81, 82]), (19, [9, 13, 15, 17, 18, 83, 84]), (20, [19, 83, 84]), (21, [11, 17, 18, 75, 76, 87, 88, 89, 90]), (22, [15, 16, 91, 92, 93, 94, 95, 96]), (23, [9, 13, 20, 97, 98]), (24, [21, 97, 98])]⟩
def code23 : SCode :=
  .seq (.region [] [⟨(some 4), .lnew [(.c (.int .i64 0)), (.c (.int .i64 0)), (.c (.slice none 0 0))], none⟩,
    ⟨(some 5), .mov (.k (.c (.int .i64 0))), none⟩])
  (.seq (.block 0 (.seq (.region [5] [⟨(some 23), .mov (.t 1), none⟩,
      ⟨(some 24), .call 37 [(.t 23)], none⟩,
      ⟨(some 25), .un .not (.t 24), none⟩,
      ⟨(some 22), .mov (.t 25), none⟩])
    (.cond (.t 22)
      (.seq (.region [0, 1, 22, 23, 24, 25] [⟨(some 26), .build [(.c (.int .i64 0)), (.c (.int .i64 0)), (.c (.slice none 0 0))] [], none⟩,
        ⟨none, .store (some 3) (.t 4) (.t 26), none⟩,
        ⟨(some 5), .mov (.k (.c (.int .i64 9))), none⟩])
      (.ret))
      (.seq (.region [22, 23, 24, 25] [⟨(some 28), .mov (.t 0), none⟩,
        ⟨(some 29), .len .sl (.t 28), none⟩,
        ⟨(some 30), .bin .gtr .no (.t 29) (.k (.c (.int .i64 4000))), none⟩,
        ⟨(some 27), .mov (.t 30), none⟩])
      (.cond (.t 27)
        (.seq (.region [0, 1, 27, 28, 29, 30] [⟨(some 31), .build [(.c (.int .i64 0)), (.c (.int .i64 0)), (.c (.slice none 0 0))] [], none⟩,
          ⟨none, .store (some 3) (.t 4) (.t 31), none⟩,
          ⟨(some 5), .mov (.k (.c (.int .i64 2))), none⟩])
        (.ret))
        (.seq (.region [27, 28, 29, 30] [⟨(some 33), .mov (.t 0), none⟩,
          ⟨(some 34), .len .sl (.t 33), none⟩,
          ⟨(some 35), .mov (.t 1), none⟩,
          ⟨(some 36), .call 38 [(.t 35)], none⟩,
          ⟨(some 37), .bin .lss .no (.t 34) (.t 36), none⟩,
          ⟨(some 32), .mov (.t 37), none⟩])
        (.cond (.t 32)
          (.seq (.region [0, 1, 32, 33, 34, 35, 36, 37] [⟨(some 38), .build [(.c (.int .i64 0)), (.c (.int .i64 0)), (.c (.slice none 0 0))] [], none⟩,
            ⟨none, .store (some 3) (.t 4) (.t 38), none⟩,
            ⟨(some 5), .mov (.k (.c (.int .i64 8))), none⟩])
          (.ret))
          (.skip))))))))
  (.seq (.region [32, 33, 34, 35, 36, 37] [⟨(some 39), .mov (.t 0), none⟩,
    ⟨(some 40), .call 39 [(.t 39)], none⟩,
    ⟨(some 6), .mov (.t 40), none⟩])
  (.seq (.region [39, 40] [⟨(some 42), .mov (.t 6), none⟩,
    ⟨(some 43), .mov (.t 1), none⟩,
    ⟨(some 44), .call 38 [(.t 43)], none⟩,
    ⟨(some 45), .bin .mul .no (.k (.c (.int .i64 8))) (.t 44), none⟩,
    ⟨(some 46), .bin .sub .no (.t 45) (.k (.c (.int .i64 3))), none⟩,
    ⟨(some 47), .mov (.t 1), none⟩,
    ⟨(some 48), .bin .sub .no (.t 46) (.t 47), none⟩,
    ⟨(some 49), .call 40 [(.t 42), (.t 48)], none⟩,
    ⟨(some 41), .mov (.t 49), none⟩,
    ⟨(some 50), .ext (.t 41) 0, none⟩,
    ⟨(some 51), .ext (.t 41) 1, none⟩,
    ⟨(some 7), .mov (.t 50), none⟩,
    ⟨(some 8), .mov (.t 51), none⟩])
  (.seq (.region [8, 41, 42, 43, 44, 45, 46, 47, 48, 49, 50, 51] [⟨(some 53), .mov (.t 6), none⟩,
    ⟨(some 54), .call 40 [(.t 53), (.k (.c (.int .i64 2)))], none⟩,
    ⟨(some 52), .mov (.t 54), none⟩,
    ⟨(some 55), .ext (.t 52) 0, none⟩,
    ⟨(some 56), .ext (.t 52) 1, none⟩,
    ⟨(some 9), .mov (.t 55), none⟩,
    ⟨(some 10), .mov (.t 56), none⟩])
  (.seq (.region [10, 52, 53, 54, 55, 56] [⟨(some 58), .mov (.t 6), none⟩,
    ⟨(some 59), .call 40 [(.t 58), (.k (.c (.int .i64 1)))], none⟩,
    ⟨(some 57), .mov (.t 59), none⟩,
    ⟨(some 60), .ext (.t 57) 0, none⟩,
    ⟨(some 61), .ext (.t 57) 1, none⟩,
    ⟨(some 11), .mov (.t 60), none⟩,
    ⟨(some 12), .mov (.t 61), none⟩])
  (.seq (.region [12, 57, 58, 59, 60, 61] [⟨(some 63), .mov (.t 6), none⟩,
    ⟨(some 64), .mov (.t 1), none⟩,
    ⟨(some 65), .call 40 [(.t 63), (.t 64)], none⟩,
    ⟨(some 62), .mov (.t 65), none⟩,
    ⟨(some 66), .ext (.t 62) 0, none⟩,
    ⟨(some 67), .ext (.t 62) 1, none⟩,
    ⟨(some 13), .mov (.t 66), none⟩,
    ⟨(some 14), .mov (.t 67), none⟩])
  (.seq (.seq (.region [6, 14, 62, 63, 64, 65, 66, 67] [⟨(some 68), .mov (.t 7), none⟩,
    ⟨(some 69), .bin .neq .no (.t 68) (.k (.c (.int .u64 0))), none⟩])
  (.cond (.t 69)
    (.seq (.region [0, 1, 7, 9, 11, 13, 68, 69] [⟨(some 70), .build [(.c (.int .i64 0)), (.c (.int .i64 0)), (.c (.slice none 0 0))] [], none⟩,
      ⟨none, .store (some 3) (.t 4) (.t 70), none⟩,
      ⟨(some 5), .mov (.k (.c (.int .i64 3))), none⟩])
    (.ret))
    (.skip)))
  (.seq (.region [7, 68, 69] [⟨(some 71), .mov (.t 0), none⟩,
    ⟨(some 72), .mov (.t 1), none⟩,
    ⟨(some 73), .call 38 [(.t 72)], none⟩,
    ⟨(some 74), .cut (.slice 1) (.t 71) (some (.t 73)) none none, none⟩,
    ⟨(some 15), .mov (.t 74), none⟩])
  (.seq (.region [0, 1, 71, 72, 73, 74] [⟨(some 16), .mov (.k (.c (.slice none 0 0))), none⟩])
  (.seq (.seq (.region [] [⟨(some 75), .mov (.t 11), none⟩,
    ⟨(some 76), .bin .eql .no (.t 75) (.k (.c (.int .u64 1))), none⟩])
  (.cond (.t 76)
    (.seq (.region [11, 16, 75, 76] [⟨(some 78), .mov (.t 15), none⟩,
      ⟨(some 79), .call 41 [(.t 78), (.k (.c (.int .i64 11)))], none⟩,
      ⟨(some 77), .mov (.t 79), none⟩,
      ⟨(some 80), .ext (.t 77) 0, none⟩,
      ⟨(some 81), .ext (.t 77) 1, none⟩,
      ⟨(some 82), .ext (.t 77) 2, none⟩,
      ⟨(some 17), .mov (.t 80), none⟩,
      ⟨(some 18), .mov (.t 81), none⟩,
      ⟨(some 19), .mov (.t 82), none⟩])
    (.seq (.seq (.region [77, 78, 79, 80, 81, 82] [⟨(some 83), .mov (.t 19), none⟩,
      ⟨(some 84), .bin .neq .no (.t 83) (.k (.c (.int .i64 0))), none⟩])
    (.cond (.t 84)
      (.seq (.region [9, 13, 15, 17, 18, 83, 84] [⟨(some 85), .build [(.c (.int .i64 0)), (.c (.int .i64 0)), (.c (.slice none 0 0))] [], none⟩,
        ⟨(some 86), .mov (.t 19), none⟩,
        ⟨none, .store (some 3) (.t 4) (.t 85), none⟩,
        ⟨(some 5), .mov (.t 86), none⟩])
      (.ret))
      (.skip)))
    (.drawn [19, 83, 84] [⟨0, ⟨(some 87), .mov (.t 17), none⟩, []⟩,
      ⟨1, ⟨(some 88), .mov (.t 15), none⟩, []⟩,
      ⟨2, ⟨(some 89), .mov (.t 18), none⟩, []⟩,
      ⟨3, ⟨(some 90), .cut (.slice 1) (.t 88) (some (.t 89)) none none, none⟩, []⟩,
      ⟨4, ⟨(some 16), .mov (.t 87), none⟩, []⟩,
      ⟨5, ⟨(some 15), .mov (.t 90), none⟩, []⟩])))
    (.skip)))
  (.seq (.region [11, 17, 18, 75, 76, 87, 88, 89, 90] [⟨(some 92), .mov (.t 15), none⟩,
    ⟨(some 93), .mov (.t 16), none⟩,
    ⟨(some 94), .call 42 [(.t 92), (.t 93)], none⟩,
    ⟨(some 91), .mov (.t 94), none⟩,
    ⟨(some 95), .ext (.t 91) 0, none⟩,
    ⟨(some 96), .ext (.t 91) 1, none⟩,
    ⟨(some 20), .mov (.t 95), none⟩,
    ⟨(some 21), .mov (.t 96), none⟩])
  (.seq (.seq (.region [15, 16, 91, 92, 93, 94, 95, 96] [⟨(some 97), .mov (.t 21), none⟩,
    ⟨(some 98), .bin .neq .no (.t 97) (.k (.c (.int .i64 0))), none⟩])
  (.cond (.t 98)
    (.seq (.region [9, 13, 20, 97, 98] [⟨(some 99), .build [(.c (.int .i64 0)), (.c (.int .i64 0)), (.c (.slice none 0 0))] [], none⟩,
      ⟨(some 100), .mov (.t 21), none⟩,
      ⟨none, .store (some 3) (.t 4) (.t 99), none⟩,
      ⟨(some 5), .mov (.t 100), none⟩])
    (.ret))
    (.skip)))
  (.seq (.region [21, 97, 98] [⟨(some 101), .mov (.t 9), none⟩,
    ⟨(some 102), .conv (.int .i64) (.t 101), none⟩,
    ⟨(some 103), .mov (.t 13), none⟩,
    ⟨(some 104), .conv (.int .i64) (.t 103), none⟩,
    ⟨(some 105), .mov (.t 20), none⟩,
    ⟨(some 106), .build [(.c (.int .i64 0)), (.c (.int .i64 0)), (.c (.slice none 0 0))] [(0, 1, (.t 102)), (1, 1, (.t 104)), (2, 1, (.t 105))], none⟩,
    ⟨none, .store (some 3) (.t 4) (.t 106), none⟩,
    ⟨(some 5), .mov (.k (.c (.int .i64 0))), none⟩])
  (.ret))))))))))))))
def fun23 : SFun := ⟨code23, 107, [.cell 4 (some 3), .tmp 5]⟩

/- 24 bowline/status.Read params #[29, 3] results #[37, 25] -/
def ann24 : Ann := ⟨[4, 7, 9], [(1, [5]), (2, [0, 1, 13, 14, 15, 16]), (3, [13, 14, 15, 16]), (4, [0, 1, 18, 19, 20, 21]), (5, [18, 19, 20, 21]), (6, [0, 1, 23, 24, 25, 26, 27, 28]), (7, [23, 24, 25, 26, 27, 28]), (8, [0, 1, 30, 31, 32, 33, 34, 35]), (9, [30, 31, 32, 33, 34, 35]), (10, [0, 37, 38, 39, 40]), (11, [41, 42]), (13, [43, 44, 45, 46]), (14, [10, 47, 48, 49, 96]), (15, [1, 7, 8, 50, 51, 52, 53, 54, 55]), (16, [50, 51, 52, 53, 54, 55]), (17, [1, 6, 7, 8, 61, 62, 63, 64, 65, 66, 67, 68]), (18, [61, 62, 63, 64, 65, 66, 67, 68]), (19, [8, 70, 71]), (20, [72, 73, 74, 75, 76, 77]), (21, [1, 6, 7, 9, 10, 78, 79, 80, 81, 82, 83, 84, 85, 86, 87, 88]), (22, [78, 79, 80, 81, 82, 83, 84, 85, 86, 87, 88]), (23, [9, 90, 91, 92, 93, 94, 95]), (24, [1, 8, 70, 71]), (25, [6, 97, 98, 99, 100, 101, 102, 103, 104]), (26, [7, 11, 12, 105, 106, 107, 108, 109, 110, 111]), (27, [11, 12, 105, 106, 107, 108, 109, 110, 111])]⟩
def sc24_0 : SCode :=
  .seq (.skip)
  (.seq (.block 1 (.seq (.region [10, 47, 48, 49, 96] [⟨(some 51), .mov (.t 6), none⟩,
      ⟨(some 52), .chk (.t 51), none⟩,
      ⟨(some 53), .faddr 1 (.t 52), none⟩,
      ⟨(some 54), .load none (.t 53), none⟩,
      ⟨(some 55), .bin .neq .no (.t 54) (.k (.c (.int .i64 0))), none⟩,
      ⟨(some 50), .mov (.t 55), none⟩])
    (.cond (.t 50)
      (.seq (.drawn [1, 7, 8, 50, 51, 52, 53, 54, 55] [⟨0, ⟨(some 56), .build [(.c (.int .i64 0)), (.c (.slice none 0 0))] [], none⟩, []⟩,
        ⟨1, ⟨(some 57), .mov (.t 6), none⟩, []⟩,
        ⟨2, ⟨(some 58), .chk (.t 57), none⟩, []⟩,
        ⟨3, ⟨(some 59), .faddr 1 (.t 58), none⟩, []⟩,
        ⟨4, ⟨(some 60), .load none (.t 59), none⟩, []⟩,
        ⟨5, ⟨none, .store (some 2) (.t 4) (.t 56), none⟩, [4]⟩,
        ⟨6, ⟨(some 5), .mov (.t 60), none⟩, []⟩])
      (.ret))
      (.seq (.region [50, 51, 52, 53, 54, 55] [⟨(some 62), .mov (.t 8), none⟩,
        ⟨(some 63), .mov (.t 62), none⟩,
        ⟨(some 64), .faddr 1 (.t 7), some (63, true)⟩,
        ⟨(some 65), .load none (.t 64), some (63, true)⟩,
        ⟨(some 66), .len .sl (.t 65), some (63, true)⟩,
        ⟨(some 67), .bin .eql .no (.t 66) (.k (.c (.int .i64 32))), some (63, true)⟩,
        ⟨(some 68), .pick (.t 63) (.t 67) (.k (.c (.bool false))), none⟩,
        ⟨(some 61), .mov (.t 68), none⟩])
      (.cond (.t 61)
        (.seq (.region [1, 6, 7, 8, 61, 62, 63, 64, 65, 66, 67, 68] [⟨(some 69), .build [(.c (.int .i64 0)), (.c (.slice none 0 0))] [], none⟩,
          ⟨none, .store (some 2) (.t 4) (.t 69), none⟩,
          ⟨(some 5), .mov (.k (.c (.int .i64 2))), none⟩])
        (.ret))
        (.seq (.region [61, 62, 63, 64, 65, 66, 67, 68] [⟨(some 71), .mov (.t 8), none⟩,
          ⟨(some 70), .mov (.t 71), none⟩])
        (.cond (.t 70)
          (.seq (.region [8, 70, 71] [⟨(some 73), .mov (.t 6), none⟩,
            ⟨(some 74), .mov (.t 1), none⟩,
            ⟨(some 75), .call 45 [(.t 73), (.t 74)], none⟩,
            ⟨(some 72), .mov (.t 75), none⟩,
            ⟨(some 76), .ext (.t 72) 0, none⟩,
            ⟨(some 77), .ext (.t 72) 1, none⟩,
            ⟨(some 9), .lnew [(.c (.int .i64 0)), (.c (.bool false)), (.c (.int .i64 0)), (.c (.int .i64 0))], none⟩,
            ⟨none, .store (some 4) (.t 9) (.t 76), none⟩,
            ⟨(some 10), .mov (.t 77), none⟩])
          (.seq (.seq (.region [72, 73, 74, 75, 76, 77] [⟨(some 78), .mov (.t 6), none⟩,
            ⟨(some 79), .chk (.t 78), none⟩,
            ⟨(some 80), .faddr 1 (.t 79), none⟩,
            ⟨(some 81), .load none (.t 80), none⟩,
            ⟨(some 82), .bin .eql .no (.t 81) (.k (.c (.int .i64 0))), none⟩,
            ⟨(some 83), .mov (.t 82), none⟩,
            ⟨(some 84), .load (some 4) (.t 9), some (83, true)⟩,
            ⟨(some 85), .mov (.t 1), some (83, true)⟩,
            ⟨(some 86), .call 46 [(.t 84), (.t 85)], some (83, true)⟩,
            ⟨(some 87), .un .not (.t 86), some (83, true)⟩,
            ⟨(some 88), .pick (.t 83) (.t 87) (.k (.c (.bool false))), none⟩])
          (.cond (.t 88)
            (.seq (.region [1, 6, 7, 9, 10, 78, 79, 80, 81, 82, 83, 84, 85, 86, 87, 88] [⟨(some 89), .build [(.c (.int .i64 0)), (.c (.slice none 0 0))] [], none⟩,
              ⟨none, .store (some 2) (.t 4) (.t 89), none⟩,
              ⟨(some 5), .mov (.k (.c (.int .i64 3))), none⟩])
            (.ret))
            (.skip)))
          (.seq (.region [78, 79, 80, 81, 82, 83, 84, 85, 86, 87, 88] [⟨(some 90), .faddr 1 (.t 7), none⟩,
            ⟨(some 91), .load none (.t 90), none⟩,
            ⟨(some 92), .load (some 4) (.t 9), none⟩,
            ⟨(some 93), .bslice 1 4 [(.c (.int .i64 0)), (.c (.bool false)), (.c (.int .i64 0)), (.c (.int .i64 0))] [(0, 4, (.t 92))], none⟩,
            ⟨(some 94), .append 4 32 (.t 91) (.t 93), none⟩,
            ⟨(some 95), .faddr 1 (.t 7), none⟩,
            ⟨none, .store none (.t 95) (.t 94), none⟩])
          (.seq (.region [9, 90, 91, 92, 93, 94, 95] [⟨(some 96), .mov (.t 10), none⟩,
            ⟨(some 8), .mov (.t 96), none⟩])
          (.goto 0)))))
          (.skip))))))))
  (.seq (.seq (.region [1, 8, 70, 71] [⟨(some 98), .mov (.t 6), none⟩,
    ⟨(some 99), .chk (.t 98), none⟩,
    ⟨(some 100), .faddr 0 (.t 99), none⟩,
    ⟨(some 101), .load none (.t 100), none⟩,
    ⟨(some 102), .call 47 [(.t 101)], none⟩,
    ⟨(some 97), .mov (.t 102), none⟩,
    ⟨(some 103), .ext (.t 97) 0, none⟩,
    ⟨(some 104), .ext (.t 97) 1, none⟩,
    ⟨(some 11), .mov (.t 103), none⟩,
    ⟨(some 12), .mov (.t 104), none⟩])
  (.seq (.region [6, 97, 98, 99, 100, 101, 102, 103, 104] [⟨(some 105), .mov (.t 12), none⟩,
    ⟨(some 106), .bin .neq .no (.t 105) (.k (.c (.int .i64 0))), none⟩,
    ⟨(some 107), .mov (.t 106), none⟩,
    ⟨(some 108), .mov (.t 11), some (107, false)⟩,
    ⟨(some 109), .len .sl (.t 108), some (107, false)⟩,
    ⟨(some 110), .bin .gtr .no (.t 109) (.k (.c (.int .i64 0))), some (107, false)⟩,
    ⟨(some 111), .pick (.t 107) (.k (.c (.bool true))) (.t 110), none⟩])
  (.cond (.t 111)
    (.seq (.region [7, 11, 12, 105, 106, 107, 108, 109, 110, 111] [⟨(some 112), .build [(.c (.int .i64 0)), (.c (.slice none 0 0))] [], none⟩,
      ⟨none, .store (some 2) (.t 4) (.t 112), none⟩,
      ⟨(some 5), .mov (.k (.c (.int .i64 3))), none⟩])
    (.ret))
    (.skip))))
  (.seq (.region [11, 12, 105, 106, 107, 108, 109, 110, 111] [⟨(some 113), .load (some 2) (.t 7), none⟩,
    ⟨none, .store (some 2) (.t 4) (.t 113), none⟩,
    ⟨(some 5), .mov (.k (.c (.int .i64 0))), none⟩])
  (.ret))))
def code24 : SCode :=
  .seq (.region [] [⟨(some 4), .lnew [(.c (.int .i64 0)), (.c (.slice none 0 0))], none⟩,
    ⟨(some 5), .mov (.k (.c (.int .i64 0))), none⟩])
  (.scope (.seq (.block 0 (.seq (.region [5] [⟨(some 14), .mov (.t 1), none⟩,
        ⟨(some 15), .call 43 [(.t 14)], none⟩,
        ⟨(some 16), .un .not (.t 15), none⟩,
        ⟨(some 13), .mov (.t 16), none⟩])
      (.cond (.t 13)
        (.seq (.region [0, 1, 13, 14, 15, 16] [⟨(some 17), .build [(.c (.int .i64 0)), (.c (.slice none 0 0))] [], none⟩,
          ⟨none, .store (some 2) (.t 4) (.t 17), none⟩,
          ⟨(some 5), .mov (.k (.c (.int .i64 9))), none⟩])
        (.ret))
        (.seq (.region [13, 14, 15, 16] [⟨(some 19), .mov (.t 0), none⟩,
          ⟨(some 20), .len .sl (.t 19), none⟩,
          ⟨(some 21), .bin .eql .no (.t 20) (.k (.c (.int .i64 0))), none⟩,
          ⟨(some 18), .mov (.t 21), none⟩])
        (.cond (.t 18)
          (.seq (.region [0, 1, 18, 19, 20, 21] [⟨(some 22), .build [(.c (.int .i64 0)), (.c (.slice none 0 0))] [], none⟩,
            ⟨none, .store (some 2) (.t 4) (.t 22), none⟩,
            ⟨(some 5), .mov (.k (.c (.int .i64 8))), none⟩])
          (.ret))
          (.seq (.region [18, 19, 20, 21] [⟨(some 24), .mov (.t 0), none⟩,
            ⟨(some 25), .iaddr 1 none (.t 24) (.k (.c (.int .i64 0))), none⟩,
            ⟨(some 26), .load none (.t 25), none⟩,
            ⟨(some 27), .bin .and .no (.t 26) (.k (.c (.int .u8 128))), none⟩,
            ⟨(some 28), .bin .neq .no (.t 27) (.k (.c (.int .u8 0))), none⟩,
            ⟨(some 23), .mov (.t 28), none⟩])
          (.cond (.t 23)
            (.seq (.region [0, 1, 23, 24, 25, 26, 27, 28] [⟨(some 29), .build [(.c (.int .i64 0)), (.c (.slice none 0 0))] [], none⟩,
              ⟨none, .store (some 2) (.t 4) (.t 29), none⟩,
              ⟨(some 5), .mov (.k (.c (.int .i64 4))), none⟩])
            (.ret))
            (.seq (.region [23, 24, 25, 26, 27, 28] [⟨(some 31), .mov (.t 0), none⟩,
              ⟨(some 32), .iaddr 1 none (.t 31) (.k (.c (.int .i64 0))), none⟩,
              ⟨(some 33), .load none (.t 32), none⟩,
              ⟨(some 34), .bin .and .no (.t 33) (.k (.c (.int .u8 112))), none⟩,
              ⟨(some 35), .bin .neq .no (.t 34) (.k (.c (.int .u8 0))), none⟩,
              ⟨(some 30), .mov (.t 35), none⟩])
            (.cond (.t 30)
              (.seq (.region [0, 1, 30, 31, 32, 33, 34, 35] [⟨(some 36), .build [(.c (.int .i64 0)), (.c (.slice none 0 0))] [], none⟩,
                ⟨none, .store (some 2) (.t 4) (.t 36), none⟩,
                ⟨(some 5), .mov (.k (.c (.int .i64 3))), none⟩])
              (.ret))
              (.skip))))))))))
    (.seq (.region [30, 31, 32, 33, 34, 35] [⟨(some 37), .mov (.t 0), none⟩,
      ⟨(some 38), .call 39 [(.t 37)], none⟩,
      ⟨(some 39), .build [(.c (.pointer none)), (.c (.int .i64 0))] [(0, 1, (.t 38))], none⟩,
      ⟨(some 40), .box 2 (.t 39), none⟩,
      ⟨(some 6), .mov (.t 40), none⟩])
    (.seq (.region [0, 37, 38, 39, 40] [⟨(some 41), .mov (.t 6), none⟩,
      ⟨(some 42), .call 44 [(.t 41), (.k (.c (.int .i64 4)))], none⟩])
    (.seq (.region [41, 42] [⟨(some 7), .lnew [(.c (.int .i64 0)), (.c (.slice none 0 0))], none⟩])
    (.seq (.region [] [⟨(some 43), .mov (.t 6), none⟩,
      ⟨(some 44), .mov (.t 1), none⟩,
      ⟨(some 45), .call 44 [(.t 43), (.t 44)], none⟩,
      ⟨(some 46), .faddr 0 (.t 7), none⟩,
      ⟨none, .store none (.t 46) (.t 45), none⟩])
    (.seq (.region [43, 44, 45, 46] [⟨(some 47), .mov (.t 6), none⟩,
      ⟨(some 48), .call 44 [(.t 47), (.k (.c (.int .i64 1)))], none⟩,
      ⟨(some 49), .bin .eql .no (.t 48) (.k (.c (.int .i64 1))), none⟩,
      ⟨(some 8), .mov (.t 49), none⟩])
    (.seq (.label 0)
    (.seq (.block 1 (.seq (.region [10, 47, 48, 49, 96] [⟨(some 51), .mov (.t 6), none⟩,
        ⟨(some 52), .chk (.t 51), none⟩,
        ⟨(some 53), .faddr 1 (.t 52), none⟩,
        ⟨(some 54), .load none (.t 53), none⟩,
        ⟨(some 55), .bin .neq .no (.t 54) (.k (.c (.int .i64 0))), none⟩,
        ⟨(some 50), .mov (.t 55), none⟩])
      (.cond (.t 50)
        (.seq (.drawn [1, 7, 8, 50, 51, 52, 53, 54, 55] [⟨0, ⟨(some 56), .build [(.c (.int .i64 0)), (.c (.slice none 0 0))] [], none⟩, []⟩,
          ⟨1, ⟨(some 57), .mov (.t 6), none⟩, []⟩,
          ⟨2, ⟨(some 58), .chk (.t 57), none⟩, []⟩,
          ⟨3, ⟨(some 59), .faddr 1 (.t 58), none⟩, []⟩,
          ⟨4, ⟨(some 60), .load none (.t 59), none⟩, []⟩,
          ⟨5, ⟨none, .store (some 2) (.t 4) (.t 56), none⟩, [4]⟩,
          ⟨6, ⟨(some 5), .mov (.t 60), none⟩, []⟩])
        (.ret))
        (.seq (.region [50, 51, 52, 53, 54, 55] [⟨(some 62), .mov (.t 8), none⟩,
          ⟨(some 63), .mov (.t 62), none⟩,
          ⟨(some 64), .faddr 1 (.t 7), some (63, true)⟩,
          ⟨(some 65), .load none (.t 64), some (63, true)⟩,
          ⟨(some 66), .len .sl (.t 65), some (63, true)⟩,
          ⟨(some 67), .bin .eql .no (.t 66) (.k (.c (.int .i64 32))), some (63, true)⟩,
          ⟨(some 68), .pick (.t 63) (.t 67) (.k (.c (.bool false))), none⟩,
          ⟨(some 61), .mov (.t 68), none⟩])
        (.cond (.t 61)
          (.seq (.region [1, 6, 7, 8, 61, 62, 63, 64, 65, 66, 67, 68] [⟨(some 69), .build [(.c (.int .i64 0)), (.c (.slice none 0 0))] [], none⟩,
            ⟨none, .store (some 2) (.t 4) (.t 69), none⟩,
            ⟨(some 5), .mov (.k (.c (.int .i64 2))), none⟩])
          (.ret))
          (.seq (.region [61, 62, 63, 64, 65, 66, 67, 68] [⟨(some 71), .mov (.t 8), none⟩,
            ⟨(some 70), .mov (.t 71), none⟩])
          (.cond (.t 70)
            (.seq (.region [8, 70, 71] [⟨(some 73), .mov (.t 6), none⟩,
              ⟨(some 74), .mov (.t 1), none⟩,
              ⟨(some 75), .call 45 [(.t 73), (.t 74)], none⟩,
              ⟨(some 72), .mov (.t 75), none⟩,
              ⟨(some 76), .ext (.t 72) 0, none⟩,
              ⟨(some 77), .ext (.t 72) 1, none⟩,
              ⟨(some 9), .lnew [(.c (.int .i64 0)), (.c (.bool false)), (.c (.int .i64 0)), (.c (.int .i64 0))], none⟩,
              ⟨none, .store (some 4) (.t 9) (.t 76), none⟩,
              ⟨(some 10), .mov (.t 77), none⟩])
            (.seq (.seq (.region [72, 73, 74, 75, 76, 77] [⟨(some 78), .mov (.t 6), none⟩,
              ⟨(some 79), .chk (.t 78), none⟩,
              ⟨(some 80), .faddr 1 (.t 79), none⟩,
              ⟨(some 81), .load none (.t 80), none⟩,
              ⟨(some 82), .bin .eql .no (.t 81) (.k (.c (.int .i64 0))), none⟩,
              ⟨(some 83), .mov (.t 82), none⟩,
              ⟨(some 84), .load (some 4) (.t 9), some (83, true)⟩,
              ⟨(some 85), .mov (.t 1), some (83, true)⟩,
              ⟨(some 86), .call 46 [(.t 84), (.t 85)], some (83, true)⟩,
              ⟨(some 87), .un .not (.t 86), some (83, true)⟩,
              ⟨(some 88), .pick (.t 83) (.t 87) (.k (.c (.bool false))), none⟩])
            (.cond (.t 88)
              (.seq (.region [1, 6, 7, 9, 10, 78, 79, 80, 81, 82, 83, 84, 85, 86, 87, 88] [⟨(some 89), .build [(.c (.int .i64 0)), (.c (.slice none 0 0))] [], none⟩,
                ⟨none, .store (some 2) (.t 4) (.t 89), none⟩,
                ⟨(some 5), .mov (.k (.c (.int .i64 3))), none⟩])
              (.ret))
              (.skip)))
            (.seq (.region [78, 79, 80, 81, 82, 83, 84, 85, 86, 87, 88] [⟨(some 90), .faddr 1 (.t 7), none⟩,
              ⟨(some 91), .load none (.t 90), none⟩,
              ⟨(some 92), .load (some 4) (.t 9), none⟩,
              ⟨(some 93), .bslice 1 4 [(.c (.int .i64 0)), (.c (.bool false)), (.c (.int .i64 0)), (.c (.int .i64 0))] [(0, 4, (.t 92))], none⟩,
              ⟨(some 94), .append 4 32 (.t 91) (.t 93), none⟩,
              ⟨(some 95), .faddr 1 (.t 7), none⟩,
              ⟨none, .store none (.t 95) (.t 94), none⟩])
            (.seq (.region [9, 90, 91, 92, 93, 94, 95] [⟨(some 96), .mov (.t 10), none⟩,
              ⟨(some 8), .mov (.t 96), none⟩])
            (.goto 0)))))
            (.skip))))))))
    (.seq (.seq (.region [1, 8, 70, 71] [⟨(some 98), .mov (.t 6), none⟩,
      ⟨(some 99), .chk (.t 98), none⟩,
      ⟨(some 100), .faddr 0 (.t 99), none⟩,
      ⟨(some 101), .load none (.t 100), none⟩,
      ⟨(some 102), .call 47 [(.t 101)], none⟩,
      ⟨(some 97), .mov (.t 102), none⟩,
      ⟨(some 103), .ext (.t 97) 0, none⟩,
      ⟨(some 104), .ext (.t 97) 1, none⟩,
      ⟨(some 11), .mov (.t 103), none⟩,
      ⟨(some 12), .mov (.t 104), none⟩])
    (.seq (.region [6, 97, 98, 99, 100, 101, 102, 103, 104] [⟨(some 105), .mov (.t 12), none⟩,
      ⟨(some 106), .bin .neq .no (.t 105) (.k (.c (.int .i64 0))), none⟩,
      ⟨(some 107), .mov (.t 106), none⟩,
      ⟨(some 108), .mov (.t 11), some (107, false)⟩,
      ⟨(some 109), .len .sl (.t 108), some (107, false)⟩,
      ⟨(some 110), .bin .gtr .no (.t 109) (.k (.c (.int .i64 0))), some (107, false)⟩,
      ⟨(some 111), .pick (.t 107) (.k (.c (.bool true))) (.t 110), none⟩])
    (.cond (.t 111)
      (.seq (.region [7, 11, 12, 105, 106, 107, 108, 109, 110, 111] [⟨(some 112), .build [(.c (.int .i64 0)), (.c (.slice none 0 0))] [], none⟩,
        ⟨none, .store (some 2) (.t 4) (.t 112), none⟩,
        ⟨(some 5), .mov (.k (.c (.int .i64 3))), none⟩])
      (.ret))
      (.skip))))
    (.seq (.region [11, 12, 105, 106, 107, 108, 109, 110, 111] [⟨(some 113), .load (some 2) (.t 7), none⟩,
      ⟨none, .store (some 2) (.t 4) (.t 113), none⟩,
      ⟨(some 5), .mov (.k (.c (.int .i64 0))), none⟩])
    (.ret))))))))))) 0 sc24_0)
def fun24 : SFun := ⟨code24, 114, [.cell 4 (some 2), .tmp 5]⟩

/- 25 bowline/amd.Read params #[29, 3] results #[34, 25] -/
def ann25 : Ann := ⟨[4, 7], [(1, [5]), (2, [0, 1, 17, 18, 19, 20]), (3, [17, 18, 19, 20]), (4, [0, 1, 22, 23, 24, 25]), (5, [22, 23, 24, 25]), (6, [0, 1, 27, 28, 29, 30]), (7, [27, 28, 29, 30]), (8, [0, 1, 32, 33, 34, 35, 36, 37]), (9, [32, 33, 34, 35, 36, 37]), (10, [39, 40, 41, 42, 43, 44, 45]), (11, [0, 1, 6, 46, 47, 48, 49]), (12, [46, 47, 48, 49]), (13, [51, 52, 53, 54, 55, 56, 57, 58, 59, 60]), (14, [0, 1, 6, 7, 8, 9, 61, 62]), (15, [9, 61, 62]), (16, [0, 6, 64, 65, 66]), (18, [8, 11, 67]), (19, [1, 68, 69, 70, 71, 72, 73, 74, 75]), (20, [7, 10, 12, 13, 76, 77]), (21, [14, 76, 77]), (22, [1, 8, 12, 13, 67, 80, 81, 82, 83]), (23, [10, 11, 84, 85, 86, 87, 88, 89]), (24, [7, 15, 90, 91]), (25, [16, 90, 91]), (26, [15, 94, 95])]⟩
def code25 : SCode :=
  .seq (.region [] [⟨(some 4), .lnew [(.c (.bool false)), (.c (.int .i64 0)), (.c (.int .i64 0)), (.c (.bool false)), (.c (.bool false)), (.c (.int .i64 0)), (.c (.slice none 0 0))], none⟩,
    ⟨(some 5), .mov (.k (.c (.int .i64 0))), none⟩])
  (.seq (.block 0 (.seq (.region [5] [⟨(some 18), .mov (.t 1), none⟩,
      ⟨(some 19), .call 48 [(.t 18)], none⟩,
      ⟨(some 20), .un .not (.t 19), none⟩,
      ⟨(some 17), .mov (.t 20), none⟩])
    (.cond (.t 17)
      (.seq (.region [0, 1, 17, 18, 19, 20] [⟨(some 21), .build [(.c (.bool false)), (.c (.int .i64 0)), (.c (.int .i64 0)), (.c (.bool false)), (.c (.bool false)), (.c (.int .i64 0)), (.c (.slice none 0 0))] [], none⟩,
        ⟨none, .store (some 7) (.t 4) (.t 21), none⟩,
        ⟨(some 5), .mov (.k (.c (.int .i64 9))), none⟩])
      (.ret))
      (.seq (.region [17, 18, 19, 20] [⟨(some 23), .mov (.t 0), none⟩,
        ⟨(some 24), .len .sl (.t 23), none⟩,
        ⟨(some 25), .bin .gtr .no (.t 24) (.k (.c (.int .i64 4000))), none⟩,
        ⟨(some 22), .mov (.t 25), none⟩])
      (.cond (.t 22)
        (.seq (.region [0, 1, 22, 23, 24, 25] [⟨(some 26), .build [(.c (.bool false)), (.c (.int .i64 0)), (.c (.int .i64 0)), (.c (.bool false)), (.c (.bool false)), (.c (.int .i64 0)), (.c (.slice none 0 0))] [], none⟩,
          ⟨none, .store (some 7) (.t 4) (.t 26), none⟩,
          ⟨(some 5), .mov (.k (.c (.int .i64 2))), none⟩])
        (.ret))
        (.seq (.region [22, 23, 24, 25] [⟨(some 28), .mov (.t 0), none⟩,
          ⟨(some 29), .len .sl (.t 28), none⟩,
          ⟨(some 30), .bin .eql .no (.t 29) (.k (.c (.int .i64 0))), none⟩,
          ⟨(some 27), .mov (.t 30), none⟩])
        (.cond (.t 27)
          (.seq (.region [0, 1, 27, 28, 29, 30] [⟨(some 31), .build [(.c (.bool false)), (.c (.int .i64 0)), (.c (.int .i64 0)), (.c (.bool false)), (.c (.bool false)), (.c (.int .i64 0)), (.c (.slice none 0 0))] [], none⟩,
            ⟨none, .store (some 7) (.t 4) (.t 31), none⟩,
            ⟨(some 5), .mov (.k (.c (.int .i64 8))), none⟩])
          (.ret))
          (.seq (.region [27, 28, 29, 30] [⟨(some 33), .mov (.t 0), none⟩,
            ⟨(some 34), .iaddr 1 none (.t 33) (.k (.c (.int .i64 0))), none⟩,
            ⟨(some 35), .load none (.t 34), none⟩,
            ⟨(some 36), .bin .and .no (.t 35) (.k (.c (.int .u8 128))), none⟩,
            ⟨(some 37), .bin .eql .no (.t 36) (.k (.c (.int .u8 0))), none⟩,
            ⟨(some 32), .mov (.t 37), none⟩])
          (.cond (.t 32)
            (.seq (.region [0, 1, 32, 33, 34, 35, 36, 37] [⟨(some 38), .build [(.c (.bool false)), (.c (.int .i64 0)), (.c (.int .i64 0)), (.c (.bool false)), (.c (.bool false)), (.c (.int .i64 0)), (.c (.slice none 0 0))] [], none⟩,
              ⟨none, .store (some 7) (.t 4) (.t 38), none⟩,
              ⟨(some 5), .mov (.k (.c (.int .i64 4))), none⟩])
            (.ret))
            (.skip))))))))))
  (.seq (.region [32, 33, 34, 35, 36, 37] [⟨(some 39), .mov (.t 0), none⟩,
    ⟨(some 40), .iaddr 1 none (.t 39) (.k (.c (.int .i64 0))), none⟩,
    ⟨(some 41), .load none (.t 40), none⟩,
    ⟨(some 42), .bin .and .no (.t 41) (.k (.c (.int .u8 64))), none⟩,
    ⟨(some 43), .bin .neq .no (.t 42) (.k (.c (.int .u8 0))), none⟩,
    ⟨(some 44), .mov (.t 1), none⟩,
    ⟨(some 45), .call 49 [(.t 43), (.t 44)], none⟩,
    ⟨(some 6), .mov (.t 45), none⟩])
  (.seq (.seq (.region [39, 40, 41, 42, 43, 44, 45] [⟨(some 46), .mov (.t 0), none⟩,
    ⟨(some 47), .len .sl (.t 46), none⟩,
    ⟨(some 48), .mov (.t 6), none⟩,
    ⟨(some 49), .bin .lss .no (.t 47) (.t 48), none⟩])
  (.cond (.t 49)
    (.seq (.region [0, 1, 6, 46, 47, 48, 49] [⟨(some 50), .build [(.c (.bool false)), (.c (.int .i64 0)), (.c (.int .i64 0)), (.c (.bool false)), (.c (.bool false)), (.c (.int .i64 0)), (.c (.slice none 0 0))] [], none⟩,
      ⟨none, .store (some 7) (.t 4) (.t 50), none⟩,
      ⟨(some 5), .mov (.k (.c (.int .i64 8))), none⟩])
    (.ret))
    (.skip)))
  (.seq (.region [46, 47, 48, 49] [⟨(some 52), .mov (.t 0), none⟩,
    ⟨(some 53), .mov (.t 6), none⟩,
    ⟨(some 54), .cut (.slice 1) (.t 52) none (some (.t 53)) none, none⟩,
    ⟨(some 55), .call 39 [(.t 54)], none⟩,
    ⟨(some 56), .mov (.t 1), none⟩,
    ⟨(some 57), .call 50 [(.t 55), (.t 56)], none⟩,
    ⟨(some 51), .mov (.t 57), none⟩,
    ⟨(some 58), .ext (.t 51) 0, none⟩,
    ⟨(some 59), .ext (.t 51) 1, none⟩,
    ⟨(some 60), .ext (.t 51) 2, none⟩,
    ⟨(some 7), .lnew [(.c (.bool false)), (.c (.int .i64 0)), (.c (.int .i64 0)), (.c (.bool false)), (.c (.bool false)), (.c (.int .i64 0)), (.c (.slice none 0 0))], none⟩,
    ⟨none, .store (some 7) (.t 7) (.t 58), none⟩,
    ⟨(some 8), .mov (.t 59), none⟩,
    ⟨(some 9), .mov (.t 60), none⟩])
  (.seq (.seq (.region [51, 52, 53, 54, 55, 56, 57, 58, 59, 60] [⟨(some 61), .mov (.t 9), none⟩,
    ⟨(some 62), .un .not (.t 61), none⟩])
  (.cond (.t 62)
    (.seq (.region [0, 1, 6, 7, 8, 9, 61, 62] [⟨(some 63), .build [(.c (.bool false)), (.c (.int .i64 0)), (.c (.int .i64 0)), (.c (.bool false)), (.c (.bool false)), (.c (.int .i64 0)), (.c (.slice none 0 0))] [], none⟩,
      ⟨none, .store (some 7) (.t 4) (.t 63), none⟩,
      ⟨(some 5), .mov (.k (.c (.int .i64 3))), none⟩])
    (.ret))
    (.skip)))
  (.seq (.region [9, 61, 62] [⟨(some 64), .mov (.t 0), none⟩,
    ⟨(some 65), .mov (.t 6), none⟩,
    ⟨(some 66), .cut (.slice 1) (.t 64) (some (.t 65)) none none, none⟩,
    ⟨(some 10), .mov (.t 66), none⟩])
  (.seq (.region [0, 6, 64, 65, 66] [⟨(some 11), .mov (.k (.c (.slice none 0 0))), none⟩])
  (.seq (.seq (.region [] [⟨(some 67), .mov (.t 8), none⟩])
  (.cond (.t 67)
    (.seq (.region [8, 11, 67] [⟨(some 69), .mov (.t 10), none⟩,
      ⟨(some 70), .mov (.t 1), none⟩,
      ⟨(some 71), .call 51 [(.t 70)], none⟩,
      ⟨(some 72), .call 41 [(.t 69), (.t 71)], none⟩,
      ⟨(some 68), .mov (.t 72), none⟩,
      ⟨(some 73), .ext (.t 68) 0, none⟩,
      ⟨(some 74), .ext (.t 68) 1, none⟩,
      ⟨(some 75), .ext (.t 68) 2, none⟩,
      ⟨(some 12), .mov (.t 73), none⟩,
      ⟨(some 13), .mov (.t 74), none⟩,
      ⟨(some 14), .mov (.t 75), none⟩])
    (.seq (.seq (.region [1, 68, 69, 70, 71, 72, 73, 74, 75] [⟨(some 76), .mov (.t 14), none⟩,
      ⟨(some 77), .bin .neq .no (.t 76) (.k (.c (.int .i64 0))), none⟩])
    (.cond (.t 77)
      (.seq (.region [7, 10, 12, 13, 76, 77] [⟨(some 78), .build [(.c (.bool false)), (.c (.int .i64 0)), (.c (.int .i64 0)), (.c (.bool false)), (.c (.bool false)), (.c (.int .i64 0)), (.c (.slice none 0 0))] [], none⟩,
        ⟨(some 79), .mov (.t 14), none⟩,
        ⟨none, .store (some 7) (.t 4) (.t 78), none⟩,
        ⟨(some 5), .mov (.t 79), none⟩])
      (.ret))
      (.skip)))
    (.drawn [14, 76, 77] [⟨0, ⟨(some 80), .mov (.t 12), none⟩, []⟩,
      ⟨1, ⟨(some 81), .mov (.t 10), none⟩, []⟩,
      ⟨2, ⟨(some 82), .mov (.t 13), none⟩, []⟩,
      ⟨3, ⟨(some 83), .cut (.slice 1) (.t 81) (some (.t 82)) none none, none⟩, []⟩,
      ⟨4, ⟨(some 11), .mov (.t 80), none⟩, []⟩,
      ⟨5, ⟨(some 10), .mov (.t 83), none⟩, []⟩])))
    (.skip)))
  (.seq (.region [1, 8, 12, 13, 67, 80, 81, 82, 83] [⟨(some 85), .mov (.t 10), none⟩,
    ⟨(some 86), .mov (.t 11), none⟩,
    ⟨(some 87), .call 52 [(.t 85), (.t 86)], none⟩,
    ⟨(some 84), .mov (.t 87), none⟩,
    ⟨(some 88), .ext (.t 84) 0, none⟩,
    ⟨(some 89), .ext (.t 84) 1, none⟩,
    ⟨(some 15), .mov (.t 88), none⟩,
    ⟨(some 16), .mov (.t 89), none⟩])
  (.seq (.seq (.region [10, 11, 84, 85, 86, 87, 88, 89] [⟨(some 90), .mov (.t 16), none⟩,
    ⟨(some 91), .bin .neq .no (.t 90) (.k (.c (.int .i64 0))), none⟩])
  (.cond (.t 91)
    (.seq (.region [7, 15, 90, 91] [⟨(some 92), .build [(.c (.bool false)), (.c (.int .i64 0)), (.c (.int .i64 0)), (.c (.bool false)), (.c (.bool false)), (.c (.int .i64 0)), (.c (.slice none 0 0))] [], none⟩,
      ⟨(some 93), .mov (.t 16), none⟩,
      ⟨none, .store (some 7) (.t 4) (.t 92), none⟩,
      ⟨(some 5), .mov (.t 93), none⟩])
    (.ret))
    (.skip)))
  (.seq (.region [16, 90, 91] [⟨(some 94), .mov (.t 15), none⟩,
    ⟨(some 95), .faddr 6 (.t 7), none⟩,
    ⟨none, .store none (.t 95) (.t 94), none⟩])
  (.seq (.region [15, 94, 95] [⟨(some 96), .load (some 7) (.t 7), none⟩,
    ⟨none, .store (some 7) (.t 4) (.t 96), none⟩,
    ⟨(some 5), .mov (.k (.c (.int .i64 0))), none⟩])
  (.ret)))))))))))))
def fun25 : SFun := ⟨code25, 97, [.cell 4 (some 7), .tmp 5]⟩

/- 26 slices.Clone[[]byte,byte] params #[29] results #[29] -/
def ann26 : Ann := ⟨[], [(1, [2]), (2, [0, 3, 4]), (3, [3, 4])]⟩
def code26 : SCode :=
  .seq (.region [] [⟨(some 2), .mov (.k (.c (.slice none 0 0))), none⟩])
  (.seq (.seq (.region [2] [⟨(some 3), .mov (.t 0), none⟩,
    ⟨(some 4), .bin .eql .slice (.t 3) (.k (.c (.slice none 0 0))), none⟩])
  (.cond (.t 4)
    (.seq (.region [0, 3, 4] [⟨(some 2), .mov (.k (.c (.slice none 0 0))), none⟩])
    (.ret))
    (.skip)))
  (.seq (.region [3, 4] [⟨(some 5), .bslice 0 1 [] [], none⟩,
    ⟨(some 6), .mov (.t 0), none⟩,
    ⟨(some 7), .append 1 1 (.t 5) (.t 6), none⟩,
    ⟨(some 2), .mov (.t 7), none⟩])
  (.ret)))
def fun26 : SFun := ⟨code26, 8, [.tmp 2]⟩

/- 27 bowline/umd.Write params #[32, 3] results #[29, 25] -/
def ann27 : Ann := ⟨[2], [(1, [0, 4, 5]), (2, [1, 2, 11, 12, 13, 14]), (3, [11, 12, 13, 14]), (4, [1, 2, 15, 16, 17, 18, 19]), (5, [15, 16, 17, 18, 19]), (6, [20]), (7, [21, 22, 23, 24, 25, 26]), (8, [27, 28, 29, 30, 31, 32, 33, 34]), (9, [35, 36, 37, 38, 39]), (10, [40, 41, 42]), (11, [1, 43, 44, 45, 46, 47, 48]), (12, [6, 49, 50]), (13, [7, 51, 52]), (14, [53, 54, 55, 56, 57, 58, 59]), (15, [2, 8, 9, 60, 61]), (16, [10, 60, 61]), (17, [7, 9, 51, 52, 63, 64, 65])]⟩
def code27 : SCode :=
  .seq (.region [] [⟨(some 2), .lbox 3 (.t 0), none⟩,
    ⟨(some 4), .mov (.k (.c (.slice none 0 0))), none⟩,
    ⟨(some 5), .mov (.k (.c (.int .i64 0))), none⟩])
  (.seq (.block 0 (.seq (.region [0, 4, 5] [⟨(some 12), .mov (.t 1), none⟩,
      ⟨(some 13), .call 37 [(.t 12)], none⟩,
      ⟨(some 14), .un .not (.t 13), none⟩,
      ⟨(some 11), .mov (.t 14), none⟩])
    (.cond (.t 11)
      (.seq (.region [1, 2, 11, 12, 13, 14] [⟨(some 4), .mov (.k (.c (.slice none 0 0))), none⟩,
        ⟨(some 5), .mov (.k (.c (.int .i64 9))), none⟩])
      (.ret))
      (.seq (.region [11, 12, 13, 14] [⟨(some 16), .load (some 3) (.t 2), none⟩,
        ⟨(some 17), .mov (.t 1), none⟩,
        ⟨(some 18), .call 53 [(.t 16), (.t 17)], none⟩,
        ⟨(some 19), .un .not (.t 18), none⟩,
        ⟨(some 15), .mov (.t 19), none⟩])
      (.cond (.t 15)
        (.seq (.region [1, 2, 15, 16, 17, 18, 19] [⟨(some 4), .mov (.k (.c (.slice none 0 0))), none⟩,
          ⟨(some 5), .mov (.k (.c (.int .i64 3))), none⟩])
        (.ret))
        (.skip))))))
  (.seq (.region [15, 16, 17, 18, 19] [⟨(some 20), .call 54 [], none⟩,
    ⟨(some 6), .mov (.t 20), none⟩])
  (.seq (.region [20] [⟨(some 21), .faddr 2 (.t 2), none⟩,
    ⟨(some 22), .load none (.t 21), none⟩,
    ⟨(some 23), .len .sl (.t 22), none⟩,
    ⟨(some 24), .bin .sub .no (.t 23) (.k (.c (.int .i64 1))), none⟩,
    ⟨(some 25), .min [(.t 24), (.k (.c (.int .i64 1)))], none⟩,
    ⟨(some 26), .conv (.int .u64) (.t 25), none⟩,
    ⟨(some 7), .mov (.t 26), none⟩])
  (.seq (.region [21, 22, 23, 24, 25, 26] [⟨(some 27), .mov (.t 6), none⟩,
    ⟨(some 28), .mov (.t 1), none⟩,
    ⟨(some 29), .call 38 [(.t 28)], none⟩,
    ⟨(some 30), .bin .mul .no (.k (.c (.int .i64 8))) (.t 29), none⟩,
    ⟨(some 31), .bin .sub .no (.t 30) (.k (.c (.int .i64 3))), none⟩,
    ⟨(some 32), .mov (.t 1), none⟩,
    ⟨(some 33), .bin .sub .no (.t 31) (.t 32), none⟩,
    ⟨(some 34), .call 55 [(.t 27), (.k (.c (.int .u64 0))), (.t 33)], none⟩])
  (.seq (.region [27, 28, 29, 30, 31, 32, 33, 34] [⟨(some 35), .mov (.t 6), none⟩,
    ⟨(some 36), .faddr 0 (.t 2), none⟩,
    ⟨(some 37), .load none (.t 36), none⟩,
    ⟨(some 38), .conv (.int .u64) (.t 37), none⟩,
    ⟨(some 39), .call 55 [(.t 35), (.t 38), (.k (.c (.int .i64 2)))], none⟩])
  (.seq (.region [35, 36, 37, 38, 39] [⟨(some 40), .mov (.t 6), none⟩,
    ⟨(some 41), .mov (.t 7), none⟩,
    ⟨(some 42), .call 55 [(.t 40), (.t 41), (.k (.c (.int .i64 1)))], none⟩])
  (.seq (.region [40, 41, 42] [⟨(some 43), .mov (.t 6), none⟩,
    ⟨(some 44), .faddr 1 (.t 2), none⟩,
    ⟨(some 45), .load none (.t 44), none⟩,
    ⟨(some 46), .conv (.int .u64) (.t 45), none⟩,
    ⟨(some 47), .mov (.t 1), none⟩,
    ⟨(some 48), .call 55 [(.t 43), (.t 46), (.t 47)], none⟩])
  (.seq (.region [1, 43, 44, 45, 46, 47, 48] [⟨(some 49), .mov (.t 6), none⟩,
    ⟨(some 50), .call 56 [(.t 49)], none⟩,
    ⟨(some 8), .mov (.t 50), none⟩])
  (.seq (.seq (.region [6, 49, 50] [⟨(some 51), .mov (.t 7), none⟩,
    ⟨(some 52), .bin .eql .no (.t 51) (.k (.c (.int .u64 1))), none⟩])
  (.cond (.t 52)
    (.seq (.region [7, 51, 52] [⟨(some 54), .faddr 2 (.t 2), none⟩,
      ⟨(some 55), .load none (.t 54), none⟩,
      ⟨(some 56), .call 58 [(.t 55)], none⟩,
      ⟨(some 57), .call 57 [(.t 56), (.k (.c (.int .i64 11)))], none⟩,
      ⟨(some 53), .mov (.t 57), none⟩,
      ⟨(some 58), .ext (.t 53) 0, none⟩,
      ⟨(some 59), .ext (.t 53) 1, none⟩,
      ⟨(some 9), .mov (.t 58), none⟩,
      ⟨(some 10), .mov (.t 59), none⟩])
    (.seq (.seq (.region [53, 54, 55, 56, 57, 58, 59] [⟨(some 60), .mov (.t 10), none⟩,
      ⟨(some 61), .bin .neq .no (.t 60) (.k (.c (.int .i64 0))), none⟩])
    (.cond (.t 61)
      (.seq (.region [2, 8, 9, 60, 61] [⟨(some 62), .mov (.t 10), none⟩,
        ⟨(some 4), .mov (.k (.c (.slice none 0 0))), none⟩,
        ⟨(some 5), .mov (.t 62), none⟩])
      (.ret))
      (.skip)))
    (.region [10, 60, 61] [⟨(some 63), .mov (.t 8), none⟩,
      ⟨(some 64), .mov (.t 9), none⟩,
      ⟨(some 65), .append 1 1 (.t 63) (.t 64), none⟩,
      ⟨(some 8), .mov (.t 65), none⟩])))
    (.skip)))
  (.seq (.region [7, 9, 51, 52, 63, 64, 65] [⟨(some 66), .mov (.t 8), none⟩,
    ⟨(some 67), .faddr 2 (.t 2), none⟩,
    ⟨(some 68), .load none (.t 67), none⟩,
    ⟨(some 69), .call 59 [(.t 68), (.k (.c (.slice none 0 0)))], none⟩,
    ⟨(some 70), .append 1 1 (.t 66) (.t 69), none⟩,
    ⟨(some 4), .mov (.t 70), none⟩,
    ⟨(some 5), .mov (.k (.c (.int .i64 0))), none⟩])
  (.ret)))))))))))
def fun27 : SFun := ⟨code27, 71, [.tmp 4, .tmp 5]⟩

/- 28 bowline/amd.Write params #[34, 3] results #[29, 25] -/
def ann28 : Ann := ⟨[2], [(1, [0, 4, 5]), (2, [1, 2, 12, 13, 14, 15]), (3, [12, 13, 14, 15]), (4, [1, 2, 16, 17, 18, 19, 20]), (5, [16, 17, 18, 19, 20]), (6, [21, 22, 23]), (8, [24, 25, 26, 27, 28, 29, 41]), (9, [33]), (10, [34, 35]), (11, [9, 36, 37, 38, 39, 40]), (12, [30, 31, 32, 33]), (13, [42, 43, 44]), (14, [1, 7, 45, 46, 47, 48, 49, 50, 51]), (15, [2, 6, 10, 52, 53]), (16, [11, 52, 53]), (17, [1, 7, 10, 42, 43, 44, 55, 56, 57])]⟩
def lp28_0 : SCode :=
  .seq (.region [24, 25, 26, 27, 28, 29, 41] [⟨(some 33), .bin .lss .no (.t 32) (.t 31), none⟩])
  (.seq (.cond (.t 33)
    (.skip)
    (.exit 1))
  (.seq (.block 2 (.seq (.region [33] [⟨(some 34), .iaddr 1 none (.t 30) (.t 32), none⟩,
      ⟨(some 35), .load none (.t 34), none⟩,
      ⟨(some 9), .mov (.t 35), none⟩])
    (.region [34, 35] [⟨(some 36), .mov (.t 7), none⟩,
      ⟨(some 37), .mov (.t 9), none⟩,
      ⟨(some 38), .len .sl (.t 37), none⟩,
      ⟨(some 39), .bslice 1 1 [(.c (.int .i64 0))] [(0, 1, (.t 38))], none⟩,
      ⟨(some 40), .append 1 8 (.t 36) (.t 39), none⟩,
      ⟨(some 7), .mov (.t 40), none⟩])))
  (.region [9, 36, 37, 38, 39, 40] [⟨(some 41), .bin .add .no (.t 32) (.k (.c (.int .i64 1))), none⟩,
    ⟨(some 32), .mov (.t 41), none⟩])))
def code28 : SCode :=
  .seq (.region [] [⟨(some 2), .lbox 7 (.t 0), none⟩,
    ⟨(some 4), .mov (.k (.c (.slice none 0 0))), none⟩,
    ⟨(some 5), .mov (.k (.c (.int .i64 0))), none⟩])
  (.seq (.block 0 (.seq (.region [0, 4, 5] [⟨(some 13), .mov (.t 1), none⟩,
      ⟨(some 14), .call 48 [(.t 13)], none⟩,
      ⟨(some 15), .un .not (.t 14), none⟩,
      ⟨(some 12), .mov (.t 15), none⟩])
    (.cond (.t 12)
      (.seq (.region [1, 2, 12, 13, 14, 15] [⟨(some 4), .mov (.k (.c (.slice none 0 0))), none⟩,
        ⟨(some 5), .mov (.k (.c (.int .i64 9))), none⟩])
      (.ret))
      (.seq (.region [12, 13, 14, 15] [⟨(some 17), .load (some 7) (.t 2), none⟩,
        ⟨(some 18), .mov (.t 1), none⟩,
        ⟨(some 19), .call 60 [(.t 17), (.t 18)], none⟩,
        ⟨(some 20), .un .not (.t 19), none⟩,
        ⟨(some 16), .mov (.t 20), none⟩])
      (.cond (.t 16)
        (.seq (.region [1, 2, 16, 17, 18, 19, 20] [⟨(some 4), .mov (.k (.c (.slice none 0 0))), none⟩,
          ⟨(some 5), .mov (.k (.c (.int .i64 3))), none⟩])
        (.ret))
        (.skip))))))
  (.seq (.region [16, 17, 18, 19, 20] [⟨(some 21), .load (some 7) (.t 2), none⟩,
    ⟨(some 22), .mov (.t 1), none⟩,
    ⟨(some 23), .call 61 [(.t 21), (.t 22)], none⟩,
    ⟨(some 6), .mov (.t 23), none⟩])
  (.seq (.region [21, 22, 23] [⟨(some 7), .mov (.k (.c (.slice none 0 0))), none⟩])
  (.seq (.seq (.region [] [⟨(some 24), .faddr 6 (.t 2), none⟩,
    ⟨(some 25), .load none (.t 24), none⟩,
    ⟨(some 26), .faddr 6 (.t 2), none⟩,
    ⟨(some 27), .load none (.t 26), none⟩,
    ⟨(some 28), .len .sl (.t 27), none⟩,
    ⟨(some 29), .bin .sub .no (.t 28) (.k (.c (.int .i64 1))), none⟩,
    ⟨(some 30), .cut (.slice 1) (.t 25) none (some (.t 29)) none, none⟩,
    ⟨(some 31), .len .sl (.t 30), none⟩,
    ⟨(some 32), .mov (.k (.c (.int .i64 0))), none⟩])
  (.block 1 (.loop lp28_0)))
  (.seq (.seq (.region [30, 31, 32, 33] [⟨(some 42), .mov (.t 7), none⟩,
    ⟨(some 43), .len .sl (.t 42), none⟩,
    ⟨(some 44), .bin .gtr .no (.t 43) (.k (.c (.int .i64 0))), none⟩])
  (.cond (.t 44)
    (.seq (.region [42, 43, 44] [⟨(some 46), .mov (.t 7), none⟩,
      ⟨(some 47), .mov (.t 1), none⟩,
      ⟨(some 48), .call 51 [(.t 47)], none⟩,
      ⟨(some 49), .call 57 [(.t 46), (.t 48)], none⟩,
      ⟨(some 45), .mov (.t 49), none⟩,
      ⟨(some 50), .ext (.t 45) 0, none⟩,
      ⟨(some 51), .ext (.t 45) 1, none⟩,
      ⟨(some 10), .mov (.t 50), none⟩,
      ⟨(some 11), .mov (.t 51), none⟩])
    (.seq (.seq (.region [1, 7, 45, 46, 47, 48, 49, 50, 51] [⟨(some 52), .mov (.t 11), none⟩,
      ⟨(some 53), .bin .neq .no (.t 52) (.k (.c (.int .i64 0))), none⟩])
    (.cond (.t 53)
      (.seq (.region [2, 6, 10, 52, 53] [⟨(some 54), .mov (.t 11), none⟩,
        ⟨(some 4), .mov (.k (.c (.slice none 0 0))), none⟩,
        ⟨(some 5), .mov (.t 54), none⟩])
      (.ret))
      (.skip)))
    (.region [11, 52, 53] [⟨(some 55), .mov (.t 6), none⟩,
      ⟨(some 56), .mov (.t 10), none⟩,
      ⟨(some 57), .append 1 1 (.t 55) (.t 56), none⟩,
      ⟨(some 6), .mov (.t 57), none⟩])))
    (.skip)))
  (.seq (.region [1, 7, 10, 42, 43, 44, 55, 56, 57] [⟨(some 58), .mov (.t 6), none⟩,
    ⟨(some 59), .load (some 7) (.t 2), none⟩,
    ⟨(some 60), .call 62 [(.t 59)], none⟩,
    ⟨(some 61), .append 1 1 (.t 58) (.t 60), none⟩,
    ⟨(some 4), .mov (.t 61), none⟩,
    ⟨(some 5), .mov (.k (.c (.int .i64 0))), none⟩])
  (.ret)))))))
def fun28 : SFun := ⟨code28, 62, [.tmp 4, .tmp 5]⟩

/- 29 bowline/status.Write params #[37, 3] results #[29, 25] -/
def ann29 : Ann := ⟨[2, 8], [(1, [0, 4, 5]), (2, [1, 2, 10, 11, 12, 13]), (3, [10, 11, 12, 13]), (4, [1, 2, 14, 15, 16, 17, 18]), (5, [14, 15, 16, 17, 18]), (6, [19]), (7, [20, 21]), (8, [22, 23, 24, 25, 26, 27]), (9, [28, 29, 30, 31, 32, 33, 34]), (10, [35, 84]), (11, [39]), (12, [40, 41, 42]), (13, [43, 44, 45, 46, 47, 48]), (14, [7, 49, 50, 51, 52, 53, 54, 55, 56, 57]), (15, [58, 59, 60, 61, 62]), (16, [63, 64]), (17, [65, 66]), (18, [67, 68, 69, 70, 71, 72]), (19, [8, 9, 63, 64, 73, 74, 75, 76, 77, 78, 79, 80, 81, 82, 83]), (20, [1, 2, 36, 37, 38, 39])]⟩
def lp29_0 : SCode :=
  .seq (.region [35, 84] [⟨(some 39), .bin .lss .no (.t 38) (.t 37), none⟩])
  (.seq (.cond (.t 39)
    (.skip)
    (.exit 1))
  (.seq (.block 2 (.seq (.region [39] [⟨(some 40), .mov (.t 38), none⟩,
      ⟨(some 41), .iaddr 4 none (.t 36) (.t 38), none⟩,
      ⟨(some 42), .load (some 4) (.t 41), none⟩,
      ⟨(some 8), .lnew [(.c (.int .i64 0)), (.c (.bool false)), (.c (.int .i64 0)), (.c (.int .i64 0))], none⟩,
      ⟨(some 7), .mov (.t 40), none⟩,
      ⟨none, .store (some 4) (.t 8) (.t 42), none⟩])
    (.seq (.region [40, 41, 42] [⟨(some 43), .mov (.t 6), none⟩,
      ⟨(some 44), .faddr 0 (.t 8), none⟩,
      ⟨(some 45), .load none (.t 44), none⟩,
      ⟨(some 46), .conv (.int .u64) (.t 45), none⟩,
      ⟨(some 47), .mov (.t 1), none⟩,
      ⟨(some 48), .call 55 [(.t 43), (.t 46), (.t 47)], none⟩])
    (.seq (.region [43, 44, 45, 46, 47, 48] [⟨(some 49), .mov (.t 6), none⟩,
      ⟨(some 50), .mov (.t 7), none⟩,
      ⟨(some 51), .faddr 1 (.t 2), none⟩,
      ⟨(some 52), .load none (.t 51), none⟩,
      ⟨(some 53), .len .sl (.t 52), none⟩,
      ⟨(some 54), .bin .sub .no (.t 53) (.k (.c (.int .i64 1))), none⟩,
      ⟨(some 55), .bin .lss .no (.t 50) (.t 54), none⟩,
      ⟨(some 56), .call 64 [(.t 55)], none⟩,
      ⟨(some 57), .call 55 [(.t 49), (.t 56), (.k (.c (.int .i64 1)))], none⟩])
    (.seq (.region [7, 49, 50, 51, 52, 53, 54, 55, 56, 57] [⟨(some 58), .mov (.t 6), none⟩,
      ⟨(some 59), .faddr 1 (.t 8), none⟩,
      ⟨(some 60), .load none (.t 59), none⟩,
      ⟨(some 61), .call 64 [(.t 60)], none⟩,
      ⟨(some 62), .call 55 [(.t 58), (.t 61), (.k (.c (.int .i64 1)))], none⟩])
    (.seq (.region [58, 59, 60, 61, 62] [⟨(some 63), .faddr 1 (.t 8), none⟩,
      ⟨(some 64), .load none (.t 63), none⟩])
    (.cond (.t 64)
      (.seq (.region [63, 64] [⟨(some 65), .mov (.t 1), none⟩,
        ⟨(some 66), .call 65 [(.t 65)], none⟩,
        ⟨(some 9), .mov (.t 66), none⟩])
      (.seq (.region [65, 66] [⟨(some 67), .mov (.t 6), none⟩,
        ⟨(some 68), .faddr 2 (.t 8), none⟩,
        ⟨(some 69), .load none (.t 68), none⟩,
        ⟨(some 70), .conv (.int .u64) (.t 69), none⟩,
        ⟨(some 71), .mov (.t 9), none⟩,
        ⟨(some 72), .call 55 [(.t 67), (.t 70), (.t 71)], none⟩])
      (.drawn [67, 68, 69, 70, 71, 72] [⟨0, ⟨(some 73), .mov (.t 6), none⟩, []⟩,
        ⟨1, ⟨(some 74), .faddr 3 (.t 8), none⟩, []⟩,
        ⟨2, ⟨(some 75), .load none (.t 74), none⟩, []⟩,
        ⟨3, ⟨(some 76), .bin .sub .no (.t 75) (.k (.c (.int .i64 1))), none⟩, []⟩,
        ⟨4, ⟨(some 77), .conv (.int .u64) (.t 76), none⟩, []⟩,
        ⟨5, ⟨(some 78), .mov (.t 9), none⟩, []⟩,
        ⟨6, ⟨(some 79), .bin .shl .no (.k (.c (.int .u64 1))) (.t 78), none⟩, []⟩,
        ⟨7, ⟨(some 80), .bin .sub .no (.t 79) (.k (.c (.int .u64 1))), none⟩, []⟩,
        ⟨8, ⟨(some 81), .bin .and .no (.t 77) (.t 80), none⟩, []⟩,
        ⟨9, ⟨(some 82), .mov (.t 9), none⟩, []⟩,
        ⟨10, ⟨(some 83), .call 55 [(.t 73), (.t 81), (.t 82)], none⟩, []⟩])))
      (.skip))))))))
  (.region [8, 9, 63, 64, 73, 74, 75, 76, 77, 78, 79, 80, 81, 82, 83] [⟨(some 84), .bin .add .no (.t 38) (.k (.c (.int .i64 1))), none⟩,
    ⟨(some 38), .mov (.t 84), none⟩])))
def code29 : SCode :=
  .seq (.region [] [⟨(some 2), .lbox 2 (.t 0), none⟩,
    ⟨(some 4), .mov (.k (.c (.slice none 0 0))), none⟩,
    ⟨(some 5), .mov (.k (.c (.int .i64 0))), none⟩])
  (.seq (.block 0 (.seq (.region [0, 4, 5] [⟨(some 11), .mov (.t 1), none⟩,
      ⟨(some 12), .call 43 [(.t 11)], none⟩,
      ⟨(some 13), .un .not (.t 12), none⟩,
      ⟨(some 10), .mov (.t 13), none⟩])
    (.cond (.t 10)
      (.seq (.region [1, 2, 10, 11, 12, 13] [⟨(some 4), .mov (.k (.c (.slice none 0 0))), none⟩,
        ⟨(some 5), .mov (.k (.c (.int .i64 9))), none⟩])
      (.ret))
      (.seq (.region [10, 11, 12, 13] [⟨(some 15), .load (some 2) (.t 2), none⟩,
        ⟨(some 16), .mov (.t 1), none⟩,
        ⟨(some 17), .call 63 [(.t 15), (.t 16)], none⟩,
        ⟨(some 18), .un .not (.t 17), none⟩,
        ⟨(some 14), .mov (.t 18), none⟩])
      (.cond (.t 14)
        (.seq (.region [1, 2, 14, 15, 16, 17, 18] [⟨(some 4), .mov (.k (.c (.slice none 0 0))), none⟩,
          ⟨(some 5), .mov (.k (.c (.int .i64 3))), none⟩])
        (.ret))
        (.skip))))))
  (.seq (.region [14, 15, 16, 17, 18] [⟨(some 19), .call 54 [], none⟩,
    ⟨(some 6), .mov (.t 19), none⟩])
  (.seq (.region [19] [⟨(some 20), .mov (.t 6), none⟩,
    ⟨(some 21), .call 55 [(.t 20), (.k (.c (.int .u64 0))), (.k (.c (.int .i64 4)))], none⟩])
  (.seq (.region [20, 21] [⟨(some 22), .mov (.t 6), none⟩,
    ⟨(some 23), .faddr 0 (.t 2), none⟩,
    ⟨(some 24), .load none (.t 23), none⟩,
    ⟨(some 25), .conv (.int .u64) (.t 24), none⟩,
    ⟨(some 26), .mov (.t 1), none⟩,
    ⟨(some 27), .call 55 [(.t 22), (.t 25), (.t 26)], none⟩])
  (.seq (.region [22, 23, 24, 25, 26, 27] [⟨(some 28), .mov (.t 6), none⟩,
    ⟨(some 29), .faddr 1 (.t 2), none⟩,
    ⟨(some 30), .load none (.t 29), none⟩,
    ⟨(some 31), .len .sl (.t 30), none⟩,
    ⟨(some 32), .bin .gtr .no (.t 31) (.k (.c (.int .i64 0))), none⟩,
    ⟨(some 33), .call 64 [(.t 32)], none⟩,
    ⟨(some 34), .call 55 [(.t 28), (.t 33), (.k (.c (.int .i64 1)))], none⟩])
  (.seq (.seq (.region [28, 29, 30, 31, 32, 33, 34] [⟨(some 35), .faddr 1 (.t 2), none⟩,
    ⟨(some 36), .load none (.t 35), none⟩,
    ⟨(some 37), .len .sl (.t 36), none⟩,
    ⟨(some 38), .mov (.k (.c (.int .i64 0))), none⟩])
  (.block 1 (.loop lp29_0)))
  (.seq (.region [1, 2, 36, 37, 38, 39] [⟨(some 85), .mov (.t 6), none⟩,
    ⟨(some 86), .call 56 [(.t 85)], none⟩,
    ⟨(some 4), .mov (.t 86), none⟩,
    ⟨(some 5), .mov (.k (.c (.int .i64 0))), none⟩])
  (.ret))))))))
def fun29 : SFun := ⟨code29, 87, [.tmp 4, .tmp 5]⟩

/- 30 bowline/bowlineref09.Same params #[46, 46] results #[4] -/
def ann30 : Ann := ⟨[2, 3], [(1, [0, 1, 4])]⟩
def code30 : SCode :=
  .seq (.region [] [⟨(some 2), .lbox 3 (.t 0), none⟩,
    ⟨(some 3), .lbox 3 (.t 1), none⟩,
    ⟨(some 4), .mov (.k (.c (.bool false))), none⟩])
  (.seq (.region [0, 1, 4] [⟨(some 5), .faddr 0 (.t 2), none⟩,
    ⟨(some 6), .load none (.t 5), none⟩,
    ⟨(some 7), .faddr 0 (.t 3), none⟩,
    ⟨(some 8), .load none (.t 7), none⟩,
    ⟨(some 9), .bin .eql .no (.t 6) (.t 8), none⟩,
    ⟨(some 10), .mov (.t 9), none⟩,
    ⟨(some 11), .faddr 1 (.t 2), some (10, true)⟩,
    ⟨(some 12), .load none (.t 11), some (10, true)⟩,
    ⟨(some 13), .faddr 1 (.t 3), some (10, true)⟩,
    ⟨(some 14), .load none (.t 13), some (10, true)⟩,
    ⟨(some 15), .bin .eql .no (.t 12) (.t 14), some (10, true)⟩,
    ⟨(some 16), .pick (.t 10) (.t 15) (.k (.c (.bool false))), none⟩,
    ⟨(some 17), .mov (.t 16), none⟩,
    ⟨(some 18), .faddr 2 (.t 2), some (17, true)⟩,
    ⟨(some 19), .load none (.t 18), some (17, true)⟩,
    ⟨(some 20), .faddr 2 (.t 3), some (17, true)⟩,
    ⟨(some 21), .load none (.t 20), some (17, true)⟩,
    ⟨(some 22), .call 66 [(.t 19), (.t 21)], some (17, true)⟩,
    ⟨(some 23), .pick (.t 17) (.t 22) (.k (.c (.bool false))), none⟩,
    ⟨(some 4), .mov (.t 23), none⟩])
  (.ret))
def fun30 : SFun := ⟨code30, 24, [.tmp 4]⟩

/- 31 bowline/bowlineref10.Same params #[47, 47] results #[4] -/
def ann31 : Ann := ⟨[2, 3], [(1, [0, 1, 4])]⟩
def code31 : SCode :=
  .seq (.region [] [⟨(some 2), .lbox 7 (.t 0), none⟩,
    ⟨(some 3), .lbox 7 (.t 1), none⟩,
    ⟨(some 4), .mov (.k (.c (.bool false))), none⟩])
  (.seq (.region [0, 1, 4] [⟨(some 5), .faddr 0 (.t 2), none⟩,
    ⟨(some 6), .load none (.t 5), none⟩,
    ⟨(some 7), .faddr 0 (.t 3), none⟩,
    ⟨(some 8), .load none (.t 7), none⟩,
    ⟨(some 9), .bin .eql .bool (.t 6) (.t 8), none⟩,
    ⟨(some 10), .mov (.t 9), none⟩,
    ⟨(some 11), .faddr 1 (.t 2), some (10, true)⟩,
    ⟨(some 12), .load none (.t 11), some (10, true)⟩,
    ⟨(some 13), .faddr 1 (.t 3), some (10, true)⟩,
    ⟨(some 14), .load none (.t 13), some (10, true)⟩,
    ⟨(some 15), .bin .eql .no (.t 12) (.t 14), some (10, true)⟩,
    ⟨(some 16), .pick (.t 10) (.t 15) (.k (.c (.bool false))), none⟩,
    ⟨(some 17), .mov (.t 16), none⟩,
    ⟨(some 18), .faddr 2 (.t 2), some (17, true)⟩,
    ⟨(some 19), .load none (.t 18), some (17, true)⟩,
    ⟨(some 20), .faddr 2 (.t 3), some (17, true)⟩,
    ⟨(some 21), .load none (.t 20), some (17, true)⟩,
    ⟨(some 22), .bin .eql .no (.t 19) (.t 21), some (17, true)⟩,
    ⟨(some 23), .pick (.t 17) (.t 22) (.k (.c (.bool false))), none⟩,
    ⟨(some 24), .mov (.t 23), none⟩,
    ⟨(some 25), .faddr 3 (.t 2), some (24, true)⟩,
    ⟨(some 26), .load none (.t 25), some (24, true)⟩,
    ⟨(some 27), .faddr 3 (.t 3), some (24, true)⟩,
    ⟨(some 28), .load none (.t 27), some (24, true)⟩,
    ⟨(some 29), .bin .eql .bool (.t 26) (.t 28), some (24, true)⟩,
    ⟨(some 30), .pick (.t 24) (.t 29) (.k (.c (.bool false))), none⟩,
    ⟨(some 31), .mov (.t 30), none⟩,
    ⟨(some 32), .faddr 4 (.t 2), some (31, true)⟩,
    ⟨(some 33), .load none (.t 32), some (31, true)⟩,
    ⟨(some 34), .faddr 4 (.t 3), some (31, true)⟩,
    ⟨(some 35), .load none (.t 34), some (31, true)⟩,
    ⟨(some 36), .bin .eql .bool (.t 33) (.t 35), some (31, true)⟩,
    ⟨(some 37), .pick (.t 31) (.t 36) (.k (.c (.bool false))), none⟩,
    ⟨(some 38), .mov (.t 37), none⟩,
    ⟨(some 39), .faddr 5 (.t 2), some (38, true)⟩,
    ⟨(some 40), .load none (.t 39), some (38, true)⟩,
    ⟨(some 41), .faddr 5 (.t 3), some (38, true)⟩,
    ⟨(some 42), .load none (.t 41), some (38, true)⟩,
    ⟨(some 43), .bin .eql .no (.t 40) (.t 42), some (38, true)⟩,
    ⟨(some 44), .pick (.t 38) (.t 43) (.k (.c (.bool false))), none⟩,
    ⟨(some 45), .mov (.t 44), none⟩,
    ⟨(some 46), .faddr 6 (.t 2), some (45, true)⟩,
    ⟨(some 47), .load none (.t 46), some (45, true)⟩,
    ⟨(some 48), .faddr 6 (.t 3), some (45, true)⟩,
    ⟨(some 49), .load none (.t 48), some (45, true)⟩,
    ⟨(some 50), .call 66 [(.t 47), (.t 49)], some (45, true)⟩,
    ⟨(some 51), .pick (.t 45) (.t 50) (.k (.c (.bool false))), none⟩,
    ⟨(some 4), .mov (.t 51), none⟩])
  (.ret))
def fun31 : SFun := ⟨code31, 52, [.tmp 4]⟩

/- 32 bowline/bowlineref11.Same params #[50, 50] results #[4] -/
def ann32 : Ann := ⟨[2, 3], [(1, [0, 1, 4]), (2, [2, 3, 6, 7, 8, 9, 10, 11, 12, 13, 14, 15, 16, 17, 18, 19]), (3, [6, 7, 8, 9, 10, 11, 12, 13, 14, 15, 16, 17, 18, 19]), (4, [25, 26]), (6, [20, 21, 22, 23, 24]), (7, [2, 3, 5, 27, 28, 29, 30, 31, 32, 33, 34, 35, 36, 37]), (5, [27, 28, 29, 30, 31, 32, 33, 34, 35, 36, 37]), (8, [2, 3, 5, 20, 21, 22, 23, 24])]⟩
def lp32_0 : SCode :=
  .seq (.seq (.region [25, 26] [⟨(some 20), .mov (.t 5), none⟩,
    ⟨(some 21), .faddr 1 (.t 2), none⟩,
    ⟨(some 22), .load none (.t 21), none⟩,
    ⟨(some 23), .len .sl (.t 22), none⟩,
    ⟨(some 24), .bin .lss .no (.t 20) (.t 23), none⟩])
  (.cond (.t 24)
    (.skip)
    (.exit 0)))
  (.seq (.block 1 (.seq (.drawn [20, 21, 22, 23, 24] [⟨0, ⟨(some 27), .faddr 1 (.t 2), none⟩, []⟩,
      ⟨1, ⟨(some 28), .load none (.t 27), none⟩, []⟩,
      ⟨2, ⟨(some 29), .mov (.t 5), none⟩, []⟩,
      ⟨3, ⟨(some 30), .iaddr 4 none (.t 28) (.t 29), none⟩, []⟩,
      ⟨4, ⟨(some 31), .load (some 4) (.t 30), none⟩, []⟩,
      ⟨5, ⟨(some 32), .faddr 1 (.t 3), none⟩, []⟩,
      ⟨6, ⟨(some 33), .load none (.t 32), none⟩, []⟩,
      ⟨7, ⟨(some 34), .mov (.t 5), none⟩, []⟩,
      ⟨8, ⟨(some 35), .iaddr 4 none (.t 33) (.t 34), none⟩, []⟩,
      ⟨9, ⟨(some 36), .load (some 4) (.t 35), none⟩, []⟩,
      ⟨10, ⟨(some 37), .bin .neq (.agg [.i, .b, .i, .i]) (.t 31) (.t 36), none⟩, []⟩])
    (.cond (.t 37)
      (.seq (.region [2, 3, 5, 27, 28, 29, 30, 31, 32, 33, 34, 35, 36, 37] [⟨(some 4), .mov (.k (.c (.bool false))), none⟩])
      (.ret))
      (.skip))))
  (.region [27, 28, 29, 30, 31, 32, 33, 34, 35, 36, 37] [⟨(some 25), .mov (.t 5), none⟩,
    ⟨(some 26), .bin .add .no (.t 25) (.k (.c (.int .i64 1))), none⟩,
    ⟨(some 5), .mov (.t 26), none⟩]))
def code32 : SCode :=
  .seq (.region [] [⟨(some 2), .lbox 2 (.t 0), none⟩,
    ⟨(some 3), .lbox 2 (.t 1), none⟩,
    ⟨(some 4), .mov (.k (.c (.bool false))), none⟩])
  (.seq (.seq (.region [0, 1, 4] [⟨(some 6), .faddr 0 (.t 2), none⟩,
    ⟨(some 7), .load none (.t 6), none⟩,
    ⟨(some 8), .faddr 0 (.t 3), none⟩,
    ⟨(some 9), .load none (.t 8), none⟩,
    ⟨(some 10), .bin .neq .no (.t 7) (.t 9), none⟩,
    ⟨(some 11), .mov (.t 10), none⟩,
    ⟨(some 12), .faddr 1 (.t 2), some (11, false)⟩,
    ⟨(some 13), .load none (.t 12), some (11, false)⟩,
    ⟨(some 14), .len .sl (.t 13), some (11, false)⟩,
    ⟨(some 15), .faddr 1 (.t 3), some (11, false)⟩,
    ⟨(some 16), .load none (.t 15), some (11, false)⟩,
    ⟨(some 17), .len .sl (.t 16), some (11, false)⟩,
    ⟨(some 18), .bin .neq .no (.t 14) (.t 17), some (11, false)⟩,
    ⟨(some 19), .pick (.t 11) (.k (.c (.bool true))) (.t 18), none⟩])
  (.cond (.t 19)
    (.seq (.region [2, 3, 6, 7, 8, 9, 10, 11, 12, 13, 14, 15, 16, 17, 18, 19] [⟨(some 4), .mov (.k (.c (.bool false))), none⟩])
    (.ret))
    (.skip)))
  (.seq (.seq (.region [6, 7, 8, 9, 10, 11, 12, 13, 14, 15, 16, 17, 18, 19] [⟨(some 5), .mov (.k (.c (.int .i64 0))), none⟩])
  (.block 0 (.loop lp32_0)))
  (.seq (.region [2, 3, 5, 20, 21, 22, 23, 24] [⟨(some 4), .mov (.k (.c (.bool true))), none⟩])
  (.ret))))
def fun32 : SFun := ⟨code32, 38, [.tmp 4]⟩

/- 33 bowline/bowlinelaw10.As params #[34] results #[47] -/
def ann33 : Ann := ⟨[1, 2], [(1, [0])]⟩
def code33 : SCode :=
  .seq (.region [] [⟨(some 1), .lbox 7 (.t 0), none⟩,
    ⟨(some 2), .lnew [(.c (.bool false)), (.c (.int .i64 0)), (.c (.int .i64 0)), (.c (.bool false)), (.c (.bool false)), (.c (.int .i64 0)), (.c (.slice none 0 0))], none⟩])
  (.seq (.region [0] [⟨(some 3), .faddr 0 (.t 1), none⟩,
    ⟨(some 4), .load none (.t 3), none⟩,
    ⟨(some 5), .faddr 1 (.t 1), none⟩,
    ⟨(some 6), .load none (.t 5), none⟩,
    ⟨(some 7), .faddr 2 (.t 1), none⟩,
    ⟨(some 8), .load none (.t 7), none⟩,
    ⟨(some 9), .faddr 3 (.t 1), none⟩,
    ⟨(some 10), .load none (.t 9), none⟩,
    ⟨(some 11), .faddr 4 (.t 1), none⟩,
    ⟨(some 12), .load none (.t 11), none⟩,
    ⟨(some 13), .faddr 5 (.t 1), none⟩,
    ⟨(some 14), .load none (.t 13), none⟩,
    ⟨(some 15), .faddr 6 (.t 1), none⟩,
    ⟨(some 16), .load none (.t 15), none⟩,
    ⟨(some 17), .build [(.c (.bool false)), (.c (.int .i64 0)), (.c (.int .i64 0)), (.c (.bool false)), (.c (.bool false)), (.c (.int .i64 0)), (.c (.slice none 0 0))] [(0, 1, (.t 4)), (1, 1, (.t 6)), (2, 1, (.t 8)), (3, 1, (.t 10)), (4, 1, (.t 12)), (5, 1, (.t 14)), (6, 1, (.t 16))], none⟩,
    ⟨none, .store (some 7) (.t 2) (.t 17), none⟩])
  (.ret))
def fun33 : SFun := ⟨code33, 18, [.cell 2 (some 7)]⟩

/- 34 bowline/bowlinelaw11.As params #[37] results #[50] -/
def ann34 : Ann := ⟨[1, 2, 3, 5], [(1, [0]), (2, [6, 7, 8]), (3, [14, 15]), (5, [9, 10, 11, 12, 13]), (6, [16, 17, 18, 19, 20]), (4, [5, 21, 22, 23, 24, 25, 26, 27, 28, 29, 30, 31, 32, 33, 34]), (7, [1, 4, 9, 10, 11, 12, 13])]⟩
def lp34_0 : SCode :=
  .seq (.seq (.region [14, 15] [⟨(some 9), .mov (.t 4), none⟩,
    ⟨(some 10), .faddr 1 (.t 1), none⟩,
    ⟨(some 11), .load none (.t 10), none⟩,
    ⟨(some 12), .len .sl (.t 11), none⟩,
    ⟨(some 13), .bin .lss .no (.t 9) (.t 12), none⟩])
  (.cond (.t 13)
    (.skip)
    (.exit 0)))
  (.seq (.block 1 (.seq (.region [9, 10, 11, 12, 13] [⟨(some 16), .faddr 1 (.t 1), none⟩,
      ⟨(some 17), .load none (.t 16), none⟩,
      ⟨(some 18), .mov (.t 4), none⟩,
      ⟨(some 19), .iaddr 4 none (.t 17) (.t 18), none⟩,
      ⟨(some 20), .load (some 4) (.t 19), none⟩,
      ⟨(some 5), .lnew [(.c (.int .i64 0)), (.c (.bool false)), (.c (.int .i64 0)), (.c (.int .i64 0))], none⟩,
      ⟨none, .store (some 4) (.t 5) (.t 20), none⟩])
    (.region [16, 17, 18, 19, 20] [⟨(some 21), .faddr 1 (.t 3), none⟩,
      ⟨(some 22), .load none (.t 21), none⟩,
      ⟨(some 23), .faddr 0 (.t 5), none⟩,
      ⟨(some 24), .load none (.t 23), none⟩,
      ⟨(some 25), .faddr 1 (.t 5), none⟩,
      ⟨(some 26), .load none (.t 25), none⟩,
      ⟨(some 27), .faddr 2 (.t 5), none⟩,
      ⟨(some 28), .load none (.t 27), none⟩,
      ⟨(some 29), .faddr 3 (.t 5), none⟩,
      ⟨(some 30), .load none (.t 29), none⟩,
      ⟨(some 31), .build [(.c (.int .i64 0)), (.c (.bool false)), (.c (.int .i64 0)), (.c (.int .i64 0))] [(0, 1, (.t 24)), (1, 1, (.t 26)), (2, 1, (.t 28)), (3, 1, (.t 30))], none⟩,
      ⟨(some 32), .bslice 1 4 [(.c (.int .i64 0)), (.c (.bool false)), (.c (.int .i64 0)), (.c (.int .i64 0))] [(0, 4, (.t 31))], none⟩,
      ⟨(some 33), .append 4 32 (.t 22) (.t 32), none⟩,
      ⟨(some 34), .faddr 1 (.t 3), none⟩,
      ⟨none, .store none (.t 34) (.t 33), none⟩])))
  (.region [5, 21, 22, 23, 24, 25, 26, 27, 28, 29, 30, 31, 32, 33, 34] [⟨(some 14), .mov (.t 4), none⟩,
    ⟨(some 15), .bin .add .no (.t 14) (.k (.c (.int .i64 1))), none⟩,
    ⟨(some 4), .mov (.t 15), none⟩]))
def code34 : SCode :=
  .seq (.region [] [⟨(some 1), .lbox 2 (.t 0), none⟩,
    ⟨(some 2), .lnew [(.c (.int .i64 0)), (.c (.slice none 0 0))], none⟩])
  (.seq (.region [0] [⟨(some 6), .faddr 0 (.t 1), none⟩,
    ⟨(some 7), .load none (.t 6), none⟩,
    ⟨(some 8), .build [(.c (.int .i64 0)), (.c (.slice none 0 0))] [(0, 1, (.t 7))], none⟩,
    ⟨(some 3), .lnew [(.c (.int .i64 0)), (.c (.slice none 0 0))], none⟩,
    ⟨none, .store (some 2) (.t 3) (.t 8), none⟩])
  (.seq (.seq (.region [6, 7, 8] [⟨(some 4), .mov (.k (.c (.int .i64 0))), none⟩])
  (.block 0 (.loop lp34_0)))
  (.seq (.region [1, 4, 9, 10, 11, 12, 13] [⟨(some 35), .load (some 2) (.t 3), none⟩,
    ⟨none, .store (some 2) (.t 2) (.t 35), none⟩])
  (.ret))))
def fun34 : SFun := ⟨code34, 36, [.cell 2 (some 2)]⟩

/- 35 slices.ContainsFunc[[][3]int,[3]int] params #[78, 80] results #[4] -/
def ann35 : Ann := ⟨[], [(1, [4])]⟩
def code35 : SCode :=
  .seq (.region [] [⟨(some 4), .mov (.k (.c (.bool false))), none⟩])
  (.seq (.region [4] [⟨(some 5), .mov (.t 0), none⟩,
    ⟨(some 6), .mov (.t 1), none⟩,
    ⟨(some 7), .call 67 [(.t 5), (.t 6)], none⟩,
    ⟨(some 8), .bin .geq .no (.t 7) (.k (.c (.int .i64 0))), none⟩,
    ⟨(some 4), .mov (.t 8), none⟩])
  (.ret))
def fun35 : SFun := ⟨code35, 9, [.tmp 4]⟩

/- 36 bowline/pdu.within$1 params #[58] results #[4] -/
def ann36 : Ann := ⟨[1], [(1, [0, 2])]⟩
def code36 : SCode :=
  .seq (.region [] [⟨(some 1), .lbox 3 (.t 0), none⟩,
    ⟨(some 2), .mov (.k (.c (.bool false))), none⟩])
  (.seq (.region [0, 2] [⟨(some 3), .iaddr 1 (some 3) (.t 1) (.k (.c (.int .i64 0))), none⟩,
    ⟨(some 4), .load none (.t 3), none⟩,
    ⟨(some 5), .iaddr 1 (some 3) (.t 1) (.k (.c (.int .i64 1))), none⟩,
    ⟨(some 6), .load none (.t 5), none⟩,
    ⟨(some 7), .bin .lss .no (.t 4) (.t 6), none⟩,
    ⟨(some 8), .mov (.t 7), none⟩,
    ⟨(some 9), .iaddr 1 (some 3) (.t 1) (.k (.c (.int .i64 0))), some (8, false)⟩,
    ⟨(some 10), .load none (.t 9), some (8, false)⟩,
    ⟨(some 11), .iaddr 1 (some 3) (.t 1) (.k (.c (.int .i64 2))), some (8, false)⟩,
    ⟨(some 12), .load none (.t 11), some (8, false)⟩,
    ⟨(some 13), .bin .gtr .no (.t 10) (.t 12), some (8, false)⟩,
    ⟨(some 14), .pick (.t 8) (.k (.c (.bool true))) (.t 13), none⟩,
    ⟨(some 2), .mov (.t 14), none⟩])
  (.ret))
def fun36 : SFun := ⟨code36, 15, [.tmp 2]⟩

/- 37 bowline/umd.isWidth params #[3] results #[4] -/
def ann37 : Ann := ⟨[], [(1, [2])]⟩
def code37 : SCode :=
  .seq (.region [] [⟨(some 2), .mov (.k (.c (.bool false))), none⟩])
  (.seq (.region [2] [⟨(some 3), .mov (.t 0), none⟩,
    ⟨(some 4), .bin .eql .no (.t 3) (.k (.c (.int .i64 5))), none⟩,
    ⟨(some 5), .mov (.t 4), none⟩,
    ⟨(some 6), .mov (.t 0), some (5, false)⟩,
    ⟨(some 7), .bin .eql .no (.t 6) (.k (.c (.int .i64 10))), some (5, false)⟩,
    ⟨(some 8), .pick (.t 5) (.k (.c (.bool true))) (.t 7), none⟩,
    ⟨(some 2), .mov (.t 8), none⟩])
  (.ret))
def fun37 : SFun := ⟨code37, 9, [.tmp 2]⟩

/- 38 bowline/umd.head params #[3] results #[3] -/
def ann38 : Ann := ⟨[], [(1, [2])]⟩
def code38 : SCode :=
  .seq (.region [] [⟨(some 2), .mov (.k (.c (.int .i64 0))), none⟩])
  (.seq (.region [2] [⟨(some 3), .mov (.t 0), none⟩,
    ⟨(some 4), .bin .quo .no (.t 3) (.k (.c (.int .i64 5))), none⟩,
    ⟨(some 2), .mov (.t 4), none⟩])
  (.ret))
def fun38 : SFun := ⟨code38, 5, [.tmp 2]⟩

/- 39 bowline/bits.Read params #[29] results #[82] -/
def ann39 : Ann := ⟨[], [(1, [2]), (2, [4, 5, 6])]⟩
def code39 : SCode :=
  .seq (.region [] [⟨(some 2), .mov (.k (.c (.pointer none))), none⟩])
  (.seq (.region [2] [⟨(some 4), .mov (.t 0), none⟩,
    ⟨(some 5), .len .sl (.t 4), none⟩,
    ⟨(some 6), .min [(.t 5), (.k (.c (.int .i64 8192)))], none⟩,
    ⟨(some 3), .mov (.t 6), none⟩])
  (.seq (.region [4, 5, 6] [⟨(some 7), .mov (.t 0), none⟩,
    ⟨(some 8), .mov (.t 3), none⟩,
    ⟨(some 9), .mov (.t 3), none⟩,
    ⟨(some 10), .cut (.slice 1) (.t 7) none (some (.t 8)) (some (.t 9)), none⟩,
    ⟨(some 11), .call 26 [(.t 10)], none⟩,
    ⟨(some 12), .build [(.c (.slice none 0 0)), (.c (.int .i64 0))] [(0, 1, (.t 11))], none⟩,
    ⟨(some 13), .box 2 (.t 12), none⟩,
    ⟨(some 2), .mov (.t 13), none⟩])
  (.ret)))
def fun39 : SFun := ⟨code39, 14, [.tmp 2]⟩

/- 40 (*bowline/bits.Reader).Get params #[82, 3] results #[84, 25] -/
def ann40 : Ann := ⟨[], [(1, [4, 5]), (2, [0, 1, 8, 9, 10]), (3, [8, 9, 10]), (4, [0, 1, 11, 12, 13, 14, 15, 16, 17]), (5, [11, 12, 13, 14, 15, 16, 17]), (6, [0, 1, 18, 19, 20, 21, 22]), (7, [18, 19, 20, 21, 22]), (9, [1, 23, 24, 25, 26, 27, 28, 58, 59, 60, 61, 62, 63, 64]), (10, [29, 30, 31, 32, 33, 34]), (11, [35, 36, 37, 38, 39, 40, 41, 42, 43, 44, 45, 46, 47, 48, 49, 50, 51, 52, 53, 54, 55, 56, 57]), (12, [0, 7, 29, 30, 31, 32, 33, 34])]⟩
def sc40_0 : SCode :=
  .seq (.skip)
  (.seq (.seq (.region [1, 23, 24, 25, 26, 27, 28, 58, 59, 60, 61, 62, 63, 64] [⟨(some 29), .mov (.t 0), none⟩,
    ⟨(some 30), .chk (.t 29), none⟩,
    ⟨(some 31), .faddr 1 (.t 30), none⟩,
    ⟨(some 32), .load none (.t 31), none⟩,
    ⟨(some 33), .mov (.t 7), none⟩,
    ⟨(some 34), .bin .lss .no (.t 32) (.t 33), none⟩])
  (.cond (.t 34)
    (.seq (.drawn [29, 30, 31, 32, 33, 34] [⟨0, ⟨(some 35), .mov (.t 6), none⟩, []⟩,
      ⟨1, ⟨(some 36), .bin .shl .no (.t 35) (.k (.c (.int .u64 1))), none⟩, []⟩,
      ⟨2, ⟨(some 37), .mov (.t 0), none⟩, []⟩,
      ⟨3, ⟨(some 38), .chk (.t 37), none⟩, []⟩,
      ⟨4, ⟨(some 39), .faddr 0 (.t 38), none⟩, []⟩,
      ⟨5, ⟨(some 40), .load none (.t 39), none⟩, []⟩,
      ⟨6, ⟨(some 41), .mov (.t 0), none⟩, []⟩,
      ⟨7, ⟨(some 42), .chk (.t 41), none⟩, []⟩,
      ⟨8, ⟨(some 43), .faddr 1 (.t 42), none⟩, []⟩,
      ⟨9, ⟨(some 44), .load none (.t 43), none⟩, []⟩,
      ⟨10, ⟨(some 45), .bin .quo .no (.t 44) (.k (.c (.int .i64 8))), none⟩, []⟩,
      ⟨11, ⟨(some 46), .iaddr 1 none (.t 40) (.t 45), none⟩, []⟩,
      ⟨12, ⟨(some 47), .load none (.t 46), none⟩, []⟩,
      ⟨13, ⟨(some 48), .mov (.t 0), none⟩, []⟩,
      ⟨14, ⟨(some 49), .chk (.t 48), none⟩, []⟩,
      ⟨15, ⟨(some 50), .faddr 1 (.t 49), none⟩, []⟩,
      ⟨16, ⟨(some 51), .load none (.t 50), none⟩, []⟩,
      ⟨17, ⟨(some 52), .bin .rem .no (.t 51) (.k (.c (.int .i64 8))), none⟩, []⟩,
      ⟨18, ⟨(some 53), .bin .sub .no (.k (.c (.int .i64 7))) (.t 52), none⟩, []⟩,
      ⟨19, ⟨(some 54), .bin .shr .no (.t 47) (.t 53), none⟩, []⟩,
      ⟨20, ⟨(some 55), .bin .and .no (.t 54) (.k (.c (.int .u8 1))), none⟩, []⟩,
      ⟨21, ⟨(some 56), .conv (.int .u64) (.t 55), none⟩, []⟩,
      ⟨22, ⟨(some 57), .bin .or .no (.t 36) (.t 56), none⟩, []⟩,
      ⟨23, ⟨(some 6), .mov (.t 57), none⟩, []⟩])
    (.seq (.region [35, 36, 37, 38, 39, 40, 41, 42, 43, 44, 45, 46, 47, 48, 49, 50, 51, 52, 53, 54, 55, 56, 57] [⟨(some 58), .mov (.t 0), none⟩,
      ⟨(some 59), .chk (.t 58), none⟩,
      ⟨(some 60), .faddr 1 (.t 59), none⟩,
      ⟨(some 61), .load none (.t 60), none⟩,
      ⟨(some 62), .bin .add .no (.t 61) (.k (.c (.int .i64 1))), none⟩,
      ⟨(some 63), .chk (.t 58), none⟩,
      ⟨(some 64), .faddr 1 (.t 63), none⟩,
      ⟨none, .store none (.t 64) (.t 62), none⟩])
    (.goto 0)))
    (.skip)))
  (.seq (.region [0, 7, 29, 30, 31, 32, 33, 34] [⟨(some 65), .mov (.t 6), none⟩,
    ⟨(some 4), .mov (.t 65), none⟩,
    ⟨(some 5), .mov (.k (.c (.int .i64 0))), none⟩])
  (.ret)))
def code40 : SCode :=
  .seq (.region [] [⟨(some 4), .mov (.k (.c (.int .u64 0))), none⟩,
    ⟨(some 5), .mov (.k (.c (.int .i64 0))), none⟩])
  (.scope (.seq (.block 0 (.seq (.region [4, 5] [⟨(some 9), .mov (.t 0), none⟩,
        ⟨(some 10), .bin .eql .ptr (.t 9) (.k (.c (.pointer none))), none⟩,
        ⟨(some 8), .mov (.t 10), none⟩])
      (.cond (.t 8)
        (.seq (.region [0, 1, 8, 9, 10] [⟨(some 4), .mov (.k (.c (.int .u64 0))), none⟩,
          ⟨(some 5), .mov (.k (.c (.int .i64 6))), none⟩])
        (.ret))
        (.seq (.region [8, 9, 10] [⟨(some 12), .mov (.t 1), none⟩,
          ⟨(some 13), .bin .lss .no (.t 12) (.k (.c (.int .i64 0))), none⟩,
          ⟨(some 14), .mov (.t 13), none⟩,
          ⟨(some 15), .mov (.t 1), some (14, false)⟩,
          ⟨(some 16), .bin .gtr .no (.t 15) (.k (.c (.int .i64 64))), some (14, false)⟩,
          ⟨(some 17), .pick (.t 14) (.k (.c (.bool true))) (.t 16), none⟩,
          ⟨(some 11), .mov (.t 17), none⟩])
        (.cond (.t 11)
          (.seq (.region [0, 1, 11, 12, 13, 14, 15, 16, 17] [⟨(some 4), .mov (.k (.c (.int .u64 0))), none⟩,
            ⟨(some 5), .mov (.k (.c (.int .i64 1))), none⟩])
          (.ret))
          (.seq (.region [11, 12, 13, 14, 15, 16, 17] [⟨(some 19), .mov (.t 1), none⟩,
            ⟨(some 20), .mov (.t 0), none⟩,
            ⟨(some 21), .call 68 [(.t 20)], none⟩,
            ⟨(some 22), .bin .gtr .no (.t 19) (.t 21), none⟩,
            ⟨(some 18), .mov (.t 22), none⟩])
          (.cond (.t 18)
            (.seq (.region [0, 1, 18, 19, 20, 21, 22] [⟨(some 4), .mov (.k (.c (.int .u64 0))), none⟩,
              ⟨(some 5), .mov (.k (.c (.int .i64 8))), none⟩])
            (.ret))
            (.skip))))))))
    (.seq (.region [18, 19, 20, 21, 22] [⟨(some 6), .mov (.k (.c (.int .u64 0))), none⟩])
    (.seq (.region [] [⟨(some 23), .mov (.t 0), none⟩,
      ⟨(some 24), .chk (.t 23), none⟩,
      ⟨(some 25), .faddr 1 (.t 24), none⟩,
      ⟨(some 26), .load none (.t 25), none⟩,
      ⟨(some 27), .mov (.t 1), none⟩,
      ⟨(some 28), .bin .add .no (.t 26) (.t 27), none⟩,
      ⟨(some 7), .mov (.t 28), none⟩])
    (.seq (.label 0)
    (.seq (.seq (.region [1, 23, 24, 25, 26, 27, 28, 58, 59, 60, 61, 62, 63, 64] [⟨(some 29), .mov (.t 0), none⟩,
      ⟨(some 30), .chk (.t 29), none⟩,
      ⟨(some 31), .faddr 1 (.t 30), none⟩,
      ⟨(some 32), .load none (.t 31), none⟩,
      ⟨(some 33), .mov (.t 7), none⟩,
      ⟨(some 34), .bin .lss .no (.t 32) (.t 33), none⟩])
    (.cond (.t 34)
      (.seq (.drawn [29, 30, 31, 32, 33, 34] [⟨0, ⟨(some 35), .mov (.t 6), none⟩, []⟩,
        ⟨1, ⟨(some 36), .bin .shl .no (.t 35) (.k (.c (.int .u64 1))), none⟩, []⟩,
        ⟨2, ⟨(some 37), .mov (.t 0), none⟩, []⟩,
        ⟨3, ⟨(some 38), .chk (.t 37), none⟩, []⟩,
        ⟨4, ⟨(some 39), .faddr 0 (.t 38), none⟩, []⟩,
        ⟨5, ⟨(some 40), .load none (.t 39), none⟩, []⟩,
        ⟨6, ⟨(some 41), .mov (.t 0), none⟩, []⟩,
        ⟨7, ⟨(some 42), .chk (.t 41), none⟩, []⟩,
        ⟨8, ⟨(some 43), .faddr 1 (.t 42), none⟩, []⟩,
        ⟨9, ⟨(some 44), .load none (.t 43), none⟩, []⟩,
        ⟨10, ⟨(some 45), .bin .quo .no (.t 44) (.k (.c (.int .i64 8))), none⟩, []⟩,
        ⟨11, ⟨(some 46), .iaddr 1 none (.t 40) (.t 45), none⟩, []⟩,
        ⟨12, ⟨(some 47), .load none (.t 46), none⟩, []⟩,
        ⟨13, ⟨(some 48), .mov (.t 0), none⟩, []⟩,
        ⟨14, ⟨(some 49), .chk (.t 48), none⟩, []⟩,
        ⟨15, ⟨(some 50), .faddr 1 (.t 49), none⟩, []⟩,
        ⟨16, ⟨(some 51), .load none (.t 50), none⟩, []⟩,
        ⟨17, ⟨(some 52), .bin .rem .no (.t 51) (.k (.c (.int .i64 8))), none⟩, []⟩,
        ⟨18, ⟨(some 53), .bin .sub .no (.k (.c (.int .i64 7))) (.t 52), none⟩, []⟩,
        ⟨19, ⟨(some 54), .bin .shr .no (.t 47) (.t 53), none⟩, []⟩,
        ⟨20, ⟨(some 55), .bin .and .no (.t 54) (.k (.c (.int .u8 1))), none⟩, []⟩,
        ⟨21, ⟨(some 56), .conv (.int .u64) (.t 55), none⟩, []⟩,
        ⟨22, ⟨(some 57), .bin .or .no (.t 36) (.t 56), none⟩, []⟩,
        ⟨23, ⟨(some 6), .mov (.t 57), none⟩, []⟩])
      (.seq (.region [35, 36, 37, 38, 39, 40, 41, 42, 43, 44, 45, 46, 47, 48, 49, 50, 51, 52, 53, 54, 55, 56, 57] [⟨(some 58), .mov (.t 0), none⟩,
        ⟨(some 59), .chk (.t 58), none⟩,
        ⟨(some 60), .faddr 1 (.t 59), none⟩,
        ⟨(some 61), .load none (.t 60), none⟩,
        ⟨(some 62), .bin .add .no (.t 61) (.k (.c (.int .i64 1))), none⟩,
        ⟨(some 63), .chk (.t 58), none⟩,
        ⟨(some 64), .faddr 1 (.t 63), none⟩,
        ⟨none, .store none (.t 64) (.t 62), none⟩])
      (.goto 0)))
      (.skip)))
    (.seq (.region [0, 7, 29, 30, 31, 32, 33, 34] [⟨(some 65), .mov (.t 6), none⟩,
      ⟨(some 4), .mov (.t 65), none⟩,
      ⟨(some 5), .mov (.k (.c (.int .i64 0))), none⟩])
    (.ret))))))) 0 sc40_0)
def fun40 : SFun := ⟨code40, 66, [.tmp 4, .tmp 5]⟩

/- 41 bowline/lens.Read params #[29, 3] results #[87, 3, 25] -/
def ann41 : Ann := ⟨[], [(1, [4, 5, 6]), (2, [0, 1, 14, 15, 16]), (3, [14, 15, 16]), (5, [0, 17, 18, 19, 20, 21, 22, 23, 24, 53, 54, 55]), (6, [25, 26, 27, 28, 29]), (7, [1, 7, 8, 9, 30, 31]), (8, [10, 30, 31]), (9, [33, 34, 35, 36, 37, 38]), (10, [1, 7, 8, 9, 11, 39, 40, 41]), (11, [10, 39, 40, 41]), (12, [1, 7, 8, 9, 11, 43, 44, 45]), (13, [43, 44, 45]), (14, [11, 46, 47, 48, 49, 50]), (15, [9, 51, 52]), (16, [1, 7, 8, 53, 54, 55]), (17, [9, 51, 52]), (18, [8, 12, 56, 57, 58, 59, 60]), (19, [1, 7, 61, 62]), (20, [13, 61, 62])]⟩
def sc41_0 : SCode :=
  .seq (.skip)
  (.seq (.region [0, 17, 18, 19, 20, 21, 22, 23, 24, 53, 54, 55] [⟨(some 26), .mov (.t 8), none⟩,
    ⟨(some 27), .call 40 [(.t 26), (.k (.c (.int .i64 1)))], none⟩,
    ⟨(some 25), .mov (.t 27), none⟩,
    ⟨(some 28), .ext (.t 25) 0, none⟩,
    ⟨(some 29), .ext (.t 25) 1, none⟩,
    ⟨(some 9), .mov (.t 28), none⟩,
    ⟨(some 10), .mov (.t 29), none⟩])
  (.seq (.seq (.region [25, 26, 27, 28, 29] [⟨(some 30), .mov (.t 10), none⟩,
    ⟨(some 31), .bin .neq .no (.t 30) (.k (.c (.int .i64 0))), none⟩])
  (.cond (.t 31)
    (.seq (.region [1, 7, 8, 9, 30, 31] [⟨(some 32), .mov (.t 10), none⟩,
      ⟨(some 4), .mov (.k (.c (.slice none 0 0))), none⟩,
      ⟨(some 5), .mov (.k (.c (.int .i64 0))), none⟩,
      ⟨(some 6), .mov (.t 32), none⟩])
    (.ret))
    (.skip)))
  (.seq (.region [10, 30, 31] [⟨(some 34), .mov (.t 8), none⟩,
    ⟨(some 35), .mov (.t 1), none⟩,
    ⟨(some 36), .call 40 [(.t 34), (.t 35)], none⟩,
    ⟨(some 33), .mov (.t 36), none⟩,
    ⟨(some 37), .ext (.t 33) 0, none⟩,
    ⟨(some 38), .ext (.t 33) 1, none⟩,
    ⟨(some 11), .mov (.t 37), none⟩,
    ⟨(some 10), .mov (.t 38), none⟩])
  (.seq (.block 0 (.seq (.region [33, 34, 35, 36, 37, 38] [⟨(some 40), .mov (.t 10), none⟩,
      ⟨(some 41), .bin .neq .no (.t 40) (.k (.c (.int .i64 0))), none⟩,
      ⟨(some 39), .mov (.t 41), none⟩])
    (.cond (.t 39)
      (.seq (.region [1, 7, 8, 9, 11, 39, 40, 41] [⟨(some 42), .mov (.t 10), none⟩,
        ⟨(some 4), .mov (.k (.c (.slice none 0 0))), none⟩,
        ⟨(some 5), .mov (.k (.c (.int .i64 0))), none⟩,
        ⟨(some 6), .mov (.t 42), none⟩])
      (.ret))
      (.seq (.region [10, 39, 40, 41] [⟨(some 44), .mov (.t 11), none⟩,
        ⟨(some 45), .bin .eql .no (.t 44) (.k (.c (.int .u64 0))), none⟩,
        ⟨(some 43), .mov (.t 45), none⟩])
      (.cond (.t 43)
        (.seq (.region [1, 7, 8, 9, 11, 43, 44, 45] [⟨(some 4), .mov (.k (.c (.slice none 0 0))), none⟩,
          ⟨(some 5), .mov (.k (.c (.int .i64 0))), none⟩,
          ⟨(some 6), .mov (.k (.c (.int .i64 3))), none⟩])
        (.ret))
        (.skip))))))
  (.seq (.region [43, 44, 45] [⟨(some 46), .mov (.t 7), none⟩,
    ⟨(some 47), .mov (.t 11), none⟩,
    ⟨(some 48), .conv (.int .i64) (.t 47), none⟩,
    ⟨(some 49), .bslice 1 1 [(.c (.int .i64 0))] [(0, 1, (.t 48))], none⟩,
    ⟨(some 50), .append 1 8 (.t 46) (.t 49), none⟩,
    ⟨(some 7), .mov (.t 50), none⟩])
  (.seq (.seq (.region [11, 46, 47, 48, 49, 50] [⟨(some 51), .mov (.t 9), none⟩,
    ⟨(some 52), .bin .eql .no (.t 51) (.k (.c (.int .u64 1))), none⟩])
  (.cond (.t 52)
    (.seq (.seq (.region [9, 51, 52] [⟨(some 53), .mov (.t 7), none⟩,
      ⟨(some 54), .len .sl (.t 53), none⟩,
      ⟨(some 55), .bin .eql .no (.t 54) (.k (.c (.int .i64 23))), none⟩])
    (.cond (.t 55)
      (.seq (.region [1, 7, 8, 53, 54, 55] [⟨(some 4), .mov (.k (.c (.slice none 0 0))), none⟩,
        ⟨(some 5), .mov (.k (.c (.int .i64 0))), none⟩,
        ⟨(some 6), .mov (.k (.c (.int .i64 2))), none⟩])
      (.ret))
      (.skip)))
    (.goto 0))
    (.skip)))
  (.seq (.seq (.region [9, 51, 52] [⟨(some 57), .mov (.t 8), none⟩,
    ⟨(some 58), .call 47 [(.t 57)], none⟩,
    ⟨(some 56), .mov (.t 58), none⟩,
    ⟨(some 59), .ext (.t 56) 0, none⟩,
    ⟨(some 60), .ext (.t 56) 1, none⟩,
    ⟨(some 12), .mov (.t 59), none⟩,
    ⟨(some 13), .mov (.t 60), none⟩])
  (.seq (.region [8, 12, 56, 57, 58, 59, 60] [⟨(some 61), .mov (.t 13), none⟩,
    ⟨(some 62), .bin .neq .no (.t 61) (.k (.c (.int .i64 0))), none⟩])
  (.cond (.t 62)
    (.seq (.region [1, 7, 61, 62] [⟨(some 63), .mov (.t 13), none⟩,
      ⟨(some 4), .mov (.k (.c (.slice none 0 0))), none⟩,
      ⟨(some 5), .mov (.k (.c (.int .i64 0))), none⟩,
      ⟨(some 6), .mov (.t 63), none⟩])
    (.ret))
    (.skip))))
  (.seq (.region [13, 61, 62] [⟨(some 64), .mov (.t 7), none⟩,
    ⟨(some 65), .mov (.t 7), none⟩,
    ⟨(some 66), .len .sl (.t 65), none⟩,
    ⟨(some 67), .mov (.t 1), none⟩,
    ⟨(some 68), .call 70 [(.t 66), (.t 67)], none⟩,
    ⟨(some 4), .mov (.t 64), none⟩,
    ⟨(some 5), .mov (.t 68), none⟩,
    ⟨(some 6), .mov (.k (.c (.int .i64 0))), none⟩])
  (.ret)))))))))
def code41 : SCode :=
  .seq (.region [] [⟨(some 4), .mov (.k (.c (.slice none 0 0))), none⟩,
    ⟨(some 5), .mov (.k (.c (.int .i64 0))), none⟩,
    ⟨(some 6), .mov (.k (.c (.int .i64 0))), none⟩])
  (.scope (.seq (.seq (.region [4, 5, 6] [⟨(some 14), .mov (.t 1), none⟩,
      ⟨(some 15), .call 69 [(.t 14)], none⟩,
      ⟨(some 16), .un .not (.t 15), none⟩])
    (.cond (.t 16)
      (.seq (.region [0, 1, 14, 15, 16] [⟨(some 4), .mov (.k (.c (.slice none 0 0))), none⟩,
        ⟨(some 5), .mov (.k (.c (.int .i64 0))), none⟩,
        ⟨(some 6), .mov (.k (.c (.int .i64 9))), none⟩])
      (.ret))
      (.skip)))
    (.seq (.region [14, 15, 16] [⟨(some 7), .mov (.k (.c (.slice none 0 0))), none⟩])
    (.seq (.region [] [⟨(some 17), .mov (.t 0), none⟩,
      ⟨(some 18), .mov (.t 0), none⟩,
      ⟨(some 19), .len .sl (.t 18), none⟩,
      ⟨(some 20), .mov (.t 1), none⟩,
      ⟨(some 21), .call 70 [(.k (.c (.int .i64 23))), (.t 20)], none⟩,
      ⟨(some 22), .min [(.t 19), (.t 21)], none⟩,
      ⟨(some 23), .cut (.slice 1) (.t 17) none (some (.t 22)) none, none⟩,
      ⟨(some 24), .call 39 [(.t 23)], none⟩,
      ⟨(some 8), .mov (.t 24), none⟩])
    (.seq (.label 0)
    (.seq (.region [0, 17, 18, 19, 20, 21, 22, 23, 24, 53, 54, 55] [⟨(some 26), .mov (.t 8), none⟩,
      ⟨(some 27), .call 40 [(.t 26), (.k (.c (.int .i64 1)))], none⟩,
      ⟨(some 25), .mov (.t 27), none⟩,
      ⟨(some 28), .ext (.t 25) 0, none⟩,
      ⟨(some 29), .ext (.t 25) 1, none⟩,
      ⟨(some 9), .mov (.t 28), none⟩,
      ⟨(some 10), .mov (.t 29), none⟩])
    (.seq (.seq (.region [25, 26, 27, 28, 29] [⟨(some 30), .mov (.t 10), none⟩,
      ⟨(some 31), .bin .neq .no (.t 30) (.k (.c (.int .i64 0))), none⟩])
    (.cond (.t 31)
      (.seq (.region [1, 7, 8, 9, 30, 31] [⟨(some 32), .mov (.t 10), none⟩,
        ⟨(some 4), .mov (.k (.c (.slice none 0 0))), none⟩,
        ⟨(some 5), .mov (.k (.c (.int .i64 0))), none⟩,
        ⟨(some 6), .mov (.t 32), none⟩])
      (.ret))
      (.skip)))
    (.seq (.region [10, 30, 31] [⟨(some 34), .mov (.t 8), none⟩,
      ⟨(some 35), .mov (.t 1), none⟩,
      ⟨(some 36), .call 40 [(.t 34), (.t 35)], none⟩,
      ⟨(some 33), .mov (.t 36), none⟩,
      ⟨(some 37), .ext (.t 33) 0, none⟩,
      ⟨(some 38), .ext (.t 33) 1, none⟩,
      ⟨(some 11), .mov (.t 37), none⟩,
      ⟨(some 10), .mov (.t 38), none⟩])
    (.seq (.block 0 (.seq (.region [33, 34, 35, 36, 37, 38] [⟨(some 40), .mov (.t 10), none⟩,
        ⟨(some 41), .bin .neq .no (.t 40) (.k (.c (.int .i64 0))), none⟩,
        ⟨(some 39), .mov (.t 41), none⟩])
      (.cond (.t 39)
        (.seq (.region [1, 7, 8, 9, 11, 39, 40, 41] [⟨(some 42), .mov (.t 10), none⟩,
          ⟨(some 4), .mov (.k (.c (.slice none 0 0))), none⟩,
          ⟨(some 5), .mov (.k (.c (.int .i64 0))), none⟩,
          ⟨(some 6), .mov (.t 42), none⟩])
        (.ret))
        (.seq (.region [10, 39, 40, 41] [⟨(some 44), .mov (.t 11), none⟩,
          ⟨(some 45), .bin .eql .no (.t 44) (.k (.c (.int .u64 0))), none⟩,
          ⟨(some 43), .mov (.t 45), none⟩])
        (.cond (.t 43)
          (.seq (.region [1, 7, 8, 9, 11, 43, 44, 45] [⟨(some 4), .mov (.k (.c (.slice none 0 0))), none⟩,
            ⟨(some 5), .mov (.k (.c (.int .i64 0))), none⟩,
            ⟨(some 6), .mov (.k (.c (.int .i64 3))), none⟩])
          (.ret))
          (.skip))))))
    (.seq (.region [43, 44, 45] [⟨(some 46), .mov (.t 7), none⟩,
      ⟨(some 47), .mov (.t 11), none⟩,
      ⟨(some 48), .conv (.int .i64) (.t 47), none⟩,
      ⟨(some 49), .bslice 1 1 [(.c (.int .i64 0))] [(0, 1, (.t 48))], none⟩,
      ⟨(some 50), .append 1 8 (.t 46) (.t 49), none⟩,
      ⟨(some 7), .mov (.t 50), none⟩])
    (.seq (.seq (.region [11, 46, 47, 48, 49, 50] [⟨(some 51), .mov (.t 9), none⟩,
      ⟨(some 52), .bin .eql .no (.t 51) (.k (.c (.int .u64 1))), none⟩])
    (.cond (.t 52)
      (.seq (.seq (.region [9, 51, 52] [⟨(some 53), .mov (.t 7), none⟩,
        ⟨(some 54), .len .sl (.t 53), none⟩,
        ⟨(some 55), .bin .eql .no (.t 54) (.k (.c (.int .i64 23))), none⟩])
      (.cond (.t 55)
        (.seq (.region [1, 7, 8, 53, 54, 55] [⟨(some 4), .mov (.k (.c (.slice none 0 0))), none⟩,
          ⟨(some 5), .mov (.k (.c (.int .i64 0))), none⟩,
          ⟨(some 6), .mov (.k (.c (.int .i64 2))), none⟩])
        (.ret))
        (.skip)))
      (.goto 0))
      (.skip)))
    (.seq (.seq (.region [9, 51, 52] [⟨(some 57), .mov (.t 8), none⟩,
      ⟨(some 58), .call 47 [(.t 57)], none⟩,
      ⟨(some 56), .mov (.t 58), none⟩,
      ⟨(some 59), .ext (.t 56) 0, none⟩,
      ⟨(some 60), .ext (.t 56) 1, none⟩,
      ⟨(some 12), .mov (.t 59), none⟩,
      ⟨(some 13), .mov (.t 60), none⟩])
    (.seq (.region [8, 12, 56, 57, 58, 59, 60] [⟨(some 61), .mov (.t 13), none⟩,
      ⟨(some 62), .bin .neq .no (.t 61) (.k (.c (.int .i64 0))), none⟩])
    (.cond (.t 62)
      (.seq (.region [1, 7, 61, 62] [⟨(some 63), .mov (.t 13), none⟩,
        ⟨(some 4), .mov (.k (.c (.slice none 0 0))), none⟩,
        ⟨(some 5), .mov (.k (.c (.int .i64 0))), none⟩,
        ⟨(some 6), .mov (.t 63), none⟩])
      (.ret))
      (.skip))))
    (.seq (.region [13, 61, 62] [⟨(some 64), .mov (.t 7), none⟩,
      ⟨(some 65), .mov (.t 7), none⟩,
      ⟨(some 66), .len .sl (.t 65), none⟩,
      ⟨(some 67), .mov (.t 1), none⟩,
      ⟨(some 68), .call 70 [(.t 66), (.t 67)], none⟩,
      ⟨(some 4), .mov (.t 64), none⟩,
      ⟨(some 5), .mov (.t 68), none⟩,
      ⟨(some 6), .mov (.k (.c (.int .i64 0))), none⟩])
    (.ret))))))))))))) 0 sc41_0)
def fun41 : SFun := ⟨code41, 69, [.tmp 4, .tmp 5, .tmp 6]⟩

/- 42 bowline/umd.fields params #[29, 87] results #[30, 25] -/
def ann42 : Ann := ⟨[], [(1, [4, 5]), (3, [39, 40]), (4, [8, 9, 10, 11]), (5, [0, 1, 6, 7, 12, 13, 14, 15, 16, 17, 18]), (6, [12, 13, 14, 15, 16, 17, 18]), (7, [19, 20, 21, 22, 23, 24, 25, 26, 27, 28, 29, 30, 31, 32]), (8, [33, 34, 35, 36, 37, 38]), (9, [1, 7, 8, 9, 10, 11]), (10, [0, 6, 41, 42, 43]), (11, [41, 42, 43])]⟩
def sc42_0 : SCode :=
  .seq (.skip)
  (.seq (.seq (.region [39, 40] [⟨(some 8), .mov (.t 7), none⟩,
    ⟨(some 9), .mov (.t 1), none⟩,
    ⟨(some 10), .len .sl (.t 9), none⟩,
    ⟨(some 11), .bin .lss .no (.t 8) (.t 10), none⟩])
  (.cond (.t 11)
    (.seq (.seq (.region [8, 9, 10, 11] [⟨(some 12), .mov (.t 1), none⟩,
      ⟨(some 13), .mov (.t 7), none⟩,
      ⟨(some 14), .iaddr 1 none (.t 12) (.t 13), none⟩,
      ⟨(some 15), .load none (.t 14), none⟩,
      ⟨(some 16), .mov (.t 0), none⟩,
      ⟨(some 17), .len .sl (.t 16), none⟩,
      ⟨(some 18), .bin .gtr .no (.t 15) (.t 17), none⟩])
    (.cond (.t 18)
      (.seq (.region [0, 1, 6, 7, 12, 13, 14, 15, 16, 17, 18] [⟨(some 4), .mov (.k (.c (.slice none 0 0))), none⟩,
        ⟨(some 5), .mov (.k (.c (.int .i64 8))), none⟩])
      (.ret))
      (.skip)))
    (.seq (.drawn [12, 13, 14, 15, 16, 17, 18] [⟨0, ⟨(some 19), .mov (.t 6), none⟩, []⟩,
      ⟨1, ⟨(some 20), .mov (.t 0), none⟩, []⟩,
      ⟨2, ⟨(some 21), .mov (.t 1), none⟩, []⟩,
      ⟨3, ⟨(some 22), .mov (.t 7), none⟩, []⟩,
      ⟨4, ⟨(some 23), .iaddr 1 none (.t 21) (.t 22), none⟩, []⟩,
      ⟨5, ⟨(some 24), .load none (.t 23), none⟩, []⟩,
      ⟨6, ⟨(some 25), .mov (.t 1), none⟩, []⟩,
      ⟨7, ⟨(some 26), .mov (.t 7), none⟩, []⟩,
      ⟨8, ⟨(some 27), .iaddr 1 none (.t 25) (.t 26), none⟩, []⟩,
      ⟨9, ⟨(some 28), .load none (.t 27), none⟩, []⟩,
      ⟨10, ⟨(some 29), .cut (.slice 1) (.t 20) none (some (.t 24)) (some (.t 28)), none⟩, []⟩,
      ⟨11, ⟨(some 30), .call 26 [(.t 29)], none⟩, []⟩,
      ⟨12, ⟨(some 31), .bslice 1 1 [(.c (.slice none 0 0))] [(0, 1, (.t 30))], none⟩, []⟩,
      ⟨13, ⟨(some 32), .append 1 24 (.t 19) (.t 31), none⟩, []⟩,
      ⟨14, ⟨(some 6), .mov (.t 32), none⟩, []⟩])
    (.seq (.region [19, 20, 21, 22, 23, 24, 25, 26, 27, 28, 29, 30, 31, 32] [⟨(some 33), .mov (.t 0), none⟩,
      ⟨(some 34), .mov (.t 1), none⟩,
      ⟨(some 35), .mov (.t 7), none⟩,
      ⟨(some 36), .iaddr 1 none (.t 34) (.t 35), none⟩,
      ⟨(some 37), .load none (.t 36), none⟩,
      ⟨(some 38), .cut (.slice 1) (.t 33) (some (.t 37)) none none, none⟩,
      ⟨(some 0), .mov (.t 38), none⟩])
    (.seq (.region [33, 34, 35, 36, 37, 38] [⟨(some 39), .mov (.t 7), none⟩,
      ⟨(some 40), .bin .add .no (.t 39) (.k (.c (.int .i64 1))), none⟩,
      ⟨(some 7), .mov (.t 40), none⟩])
    (.goto 0)))))
    (.skip)))
  (.seq (.seq (.region [1, 7, 8, 9, 10, 11] [⟨(some 41), .mov (.t 0), none⟩,
    ⟨(some 42), .len .sl (.t 41), none⟩,
    ⟨(some 43), .bin .eql .no (.t 42) (.k (.c (.int .i64 0))), none⟩])
  (.cond (.t 43)
    (.seq (.region [0, 6, 41, 42, 43] [⟨(some 4), .mov (.k (.c (.slice none 0 0))), none⟩,
      ⟨(some 5), .mov (.k (.c (.int .i64 8))), none⟩])
    (.ret))
    (.skip)))
  (.seq (.region [41, 42, 43] [⟨(some 44), .mov (.t 6), none⟩,
    ⟨(some 45), .mov (.t 0), none⟩,
    ⟨(some 46), .call 26 [(.t 45)], none⟩,
    ⟨(some 47), .bslice 1 1 [(.c (.slice none 0 0))] [(0, 1, (.t 46))], none⟩,
    ⟨(some 48), .append 1 24 (.t 44) (.t 47), none⟩,
    ⟨(some 4), .mov (.t 48), none⟩,
    ⟨(some 5), .mov (.k (.c (.int .i64 0))), none⟩])
  (.ret))))
def code42 : SCode :=
  .seq (.region [] [⟨(some 4), .mov (.k (.c (.slice none 0 0))), none⟩,
    ⟨(some 5), .mov (.k (.c (.int .i64 0))), none⟩])
  (.scope (.seq (.region [4, 5] [⟨(some 6), .mov (.k (.c (.slice none 0 0))), none⟩])
    (.seq (.region [] [⟨(some 7), .mov (.k (.c (.int .i64 0))), none⟩])
    (.seq (.label 0)
    (.seq (.seq (.region [39, 40] [⟨(some 8), .mov (.t 7), none⟩,
      ⟨(some 9), .mov (.t 1), none⟩,
      ⟨(some 10), .len .sl (.t 9), none⟩,
      ⟨(some 11), .bin .lss .no (.t 8) (.t 10), none⟩])
    (.cond (.t 11)
      (.seq (.seq (.region [8, 9, 10, 11] [⟨(some 12), .mov (.t 1), none⟩,
        ⟨(some 13), .mov (.t 7), none⟩,
        ⟨(some 14), .iaddr 1 none (.t 12) (.t 13), none⟩,
        ⟨(some 15), .load none (.t 14), none⟩,
        ⟨(some 16), .mov (.t 0), none⟩,
        ⟨(some 17), .len .sl (.t 16), none⟩,
        ⟨(some 18), .bin .gtr .no (.t 15) (.t 17), none⟩])
      (.cond (.t 18)
        (.seq (.region [0, 1, 6, 7, 12, 13, 14, 15, 16, 17, 18] [⟨(some 4), .mov (.k (.c (.slice none 0 0))), none⟩,
          ⟨(some 5), .mov (.k (.c (.int .i64 8))), none⟩])
        (.ret))
        (.skip)))
      (.seq (.drawn [12, 13, 14, 15, 16, 17, 18] [⟨0, ⟨(some 19), .mov (.t 6), none⟩, []⟩,
        ⟨1, ⟨(some 20), .mov (.t 0), none⟩, []⟩,
        ⟨2, ⟨(some 21), .mov (.t 1), none⟩, []⟩,
        ⟨3, ⟨(some 22), .mov (.t 7), none⟩, []⟩,
        ⟨4, ⟨(some 23), .iaddr 1 none (.t 21) (.t 22), none⟩, []⟩,
        ⟨5, ⟨(some 24), .load none (.t 23), none⟩, []⟩,
        ⟨6, ⟨(some 25), .mov (.t 1), none⟩, []⟩,
        ⟨7, ⟨(some 26), .mov (.t 7), none⟩, []⟩,
        ⟨8, ⟨(some 27), .iaddr 1 none (.t 25) (.t 26), none⟩, []⟩,
        ⟨9, ⟨(some 28), .load none (.t 27), none⟩, []⟩,
        ⟨10, ⟨(some 29), .cut (.slice 1) (.t 20) none (some (.t 24)) (some (.t 28)), none⟩, []⟩,
        ⟨11, ⟨(some 30), .call 26 [(.t 29)], none⟩, []⟩,
        ⟨12, ⟨(some 31), .bslice 1 1 [(.c (.slice none 0 0))] [(0, 1, (.t 30))], none⟩, []⟩,
        ⟨13, ⟨(some 32), .append 1 24 (.t 19) (.t 31), none⟩, []⟩,
        ⟨14, ⟨(some 6), .mov (.t 32), none⟩, []⟩])
      (.seq (.region [19, 20, 21, 22, 23, 24, 25, 26, 27, 28, 29, 30, 31, 32] [⟨(some 33), .mov (.t 0), none⟩,
        ⟨(some 34), .mov (.t 1), none⟩,
        ⟨(some 35), .mov (.t 7), none⟩,
        ⟨(some 36), .iaddr 1 none (.t 34) (.t 35), none⟩,
        ⟨(some 37), .load none (.t 36), none⟩,
        ⟨(some 38), .cut (.slice 1) (.t 33) (some (.t 37)) none none, none⟩,
        ⟨(some 0), .mov (.t 38), none⟩])
      (.seq (.region [33, 34, 35, 36, 37, 38] [⟨(some 39), .mov (.t 7), none⟩,
        ⟨(some 40), .bin .add .no (.t 39) (.k (.c (.int .i64 1))), none⟩,
        ⟨(some 7), .mov (.t 40), none⟩])
      (.goto 0)))))
      (.skip)))
    (.seq (.seq (.region [1, 7, 8, 9, 10, 11] [⟨(some 41), .mov (.t 0), none⟩,
      ⟨(some 42), .len .sl (.t 41), none⟩,
      ⟨(some 43), .bin .eql .no (.t 42) (.k (.c (.int .i64 0))), none⟩])
    (.cond (.t 43)
      (.seq (.region [0, 6, 41, 42, 43] [⟨(some 4), .mov (.k (.c (.slice none 0 0))), none⟩,
        ⟨(some 5), .mov (.k (.c (.int .i64 8))), none⟩])
      (.ret))
      (.skip)))
    (.seq (.region [41, 42, 43] [⟨(some 44), .mov (.t 6), none⟩,
      ⟨(some 45), .mov (.t 0), none⟩,
      ⟨(some 46), .call 26 [(.t 45)], none⟩,
      ⟨(some 47), .bslice 1 1 [(.c (.slice none 0 0))] [(0, 1, (.t 46))], none⟩,
      ⟨(some 48), .append 1 24 (.t 44) (.t 47), none⟩,
      ⟨(some 4), .mov (.t 48), none⟩,
      ⟨(some 5), .mov (.k (.c (.int .i64 0))), none⟩])
    (.ret))))))) 0 sc42_0)
def fun42 : SFun := ⟨code42, 49, [.tmp 4, .tmp 5]⟩

/- 43 bowline/status.isWidth params #[3] results #[4] -/
def ann43 : Ann := ⟨[], [(1, [2])]⟩
def code43 : SCode :=
  .seq (.region [] [⟨(some 2), .mov (.k (.c (.bool false))), none⟩])
  (.seq (.region [2] [⟨(some 3), .mov (.t 0), none⟩,
    ⟨(some 4), .bin .eql .no (.t 3) (.k (.c (.int .i64 10))), none⟩,
    ⟨(some 5), .mov (.t 4), none⟩,
    ⟨(some 6), .mov (.t 0), some (5, false)⟩,
    ⟨(some 7), .bin .eql .no (.t 6) (.k (.c (.int .i64 16))), some (5, false)⟩,
    ⟨(some 8), .pick (.t 5) (.k (.c (.bool true))) (.t 7), none⟩,
    ⟨(some 2), .mov (.t 8), none⟩])
  (.ret))
def fun43 : SFun := ⟨code43, 9, [.tmp 2]⟩

/- 44 (*bowline/status.reader).get params #[92, 3] results #[3] -/
def ann44 : Ann := ⟨[], [(1, [4]), (2, [0, 1, 7, 8, 9, 10, 11]), (3, [7, 8, 9, 10, 11]), (4, [1, 12, 13, 14, 15, 16, 17, 18, 19, 20]), (5, [0, 6, 21, 22, 23, 24])]⟩
def code44 : SCode :=
  .seq (.region [] [⟨(some 4), .mov (.k (.c (.int .i64 0))), none⟩])
  (.seq (.seq (.region [4] [⟨(some 7), .mov (.t 0), none⟩,
    ⟨(some 8), .chk (.t 7), none⟩,
    ⟨(some 9), .faddr 1 (.t 8), none⟩,
    ⟨(some 10), .load none (.t 9), none⟩,
    ⟨(some 11), .bin .neq .no (.t 10) (.k (.c (.int .i64 0))), none⟩])
  (.cond (.t 11)
    (.seq (.region [0, 1, 7, 8, 9, 10, 11] [⟨(some 4), .mov (.k (.c (.int .i64 0))), none⟩])
    (.ret))
    (.skip)))
  (.seq (.region [7, 8, 9, 10, 11] [⟨(some 13), .mov (.t 0), none⟩,
    ⟨(some 14), .chk (.t 13), none⟩,
    ⟨(some 15), .faddr 0 (.t 14), none⟩,
    ⟨(some 16), .load none (.t 15), none⟩,
    ⟨(some 17), .mov (.t 1), none⟩,
    ⟨(some 18), .call 40 [(.t 16), (.t 17)], none⟩,
    ⟨(some 12), .mov (.t 18), none⟩,
    ⟨(some 19), .ext (.t 12) 0, none⟩,
    ⟨(some 20), .ext (.t 12) 1, none⟩,
    ⟨(some 5), .mov (.t 19), none⟩,
    ⟨(some 6), .mov (.t 20), none⟩])
  (.seq (.region [1, 12, 13, 14, 15, 16, 17, 18, 19, 20] [⟨(some 21), .mov (.t 0), none⟩,
    ⟨(some 22), .mov (.t 6), none⟩,
    ⟨(some 23), .chk (.t 21), none⟩,
    ⟨(some 24), .faddr 1 (.t 23), none⟩,
    ⟨none, .store none (.t 24) (.t 22), none⟩])
  (.seq (.region [0, 6, 21, 22, 23, 24] [⟨(some 25), .mov (.t 5), none⟩,
    ⟨(some 26), .conv (.int .i64) (.t 25), none⟩,
    ⟨(some 4), .mov (.t 26), none⟩])
  (.ret)))))
def fun44 : SFun := ⟨code44, 27, [.tmp 4]⟩

/- 45 (*bowline/status.reader).miss params #[92, 3] results #[96, 4] -/
def ann45 : Ann := ⟨[4], [(1, [5]), (2, [7, 8, 9, 10]), (3, [11, 12, 13]), (4, [14, 15, 16, 17]), (5, [18, 19]), (6, [1, 20, 21]), (7, [22, 23, 24, 25]), (8, [0, 1, 6, 18, 19, 26, 27, 28, 29, 30, 31, 32, 33, 34])]⟩
def code45 : SCode :=
  .seq (.region [] [⟨(some 4), .lnew [(.c (.int .i64 0)), (.c (.bool false)), (.c (.int .i64 0)), (.c (.int .i64 0))], none⟩,
    ⟨(some 5), .mov (.k (.c (.bool false))), none⟩])
  (.seq (.region [5] [⟨(some 7), .mov (.t 0), none⟩,
    ⟨(some 8), .mov (.t 1), none⟩,
    ⟨(some 9), .call 44 [(.t 7), (.t 8)], none⟩,
    ⟨(some 10), .faddr 0 (.t 4), none⟩,
    ⟨none, .store none (.t 10) (.t 9), none⟩])
  (.seq (.region [7, 8, 9, 10] [⟨(some 11), .mov (.t 0), none⟩,
    ⟨(some 12), .call 44 [(.t 11), (.k (.c (.int .i64 1)))], none⟩,
    ⟨(some 13), .bin .eql .no (.t 12) (.k (.c (.int .i64 1))), none⟩,
    ⟨(some 5), .mov (.t 13), none⟩])
  (.seq (.region [11, 12, 13] [⟨(some 14), .mov (.t 0), none⟩,
    ⟨(some 15), .call 44 [(.t 14), (.k (.c (.int .i64 1)))], none⟩,
    ⟨(some 16), .bin .eql .no (.t 15) (.k (.c (.int .i64 1))), none⟩,
    ⟨(some 17), .faddr 1 (.t 4), none⟩,
    ⟨none, .store none (.t 17) (.t 16), none⟩])
  (.seq (.seq (.region [14, 15, 16, 17] [⟨(some 18), .faddr 1 (.t 4), none⟩,
    ⟨(some 19), .load none (.t 18), none⟩])
  (.cond (.t 19)
    (.seq (.region [18, 19] [⟨(some 20), .mov (.t 1), none⟩,
      ⟨(some 21), .call 65 [(.t 20)], none⟩,
      ⟨(some 6), .mov (.t 21), none⟩])
    (.seq (.region [1, 20, 21] [⟨(some 22), .mov (.t 0), none⟩,
      ⟨(some 23), .mov (.t 6), none⟩,
      ⟨(some 24), .call 44 [(.t 22), (.t 23)], none⟩,
      ⟨(some 25), .faddr 2 (.t 4), none⟩,
      ⟨none, .store none (.t 25) (.t 24), none⟩])
    (.drawn [22, 23, 24, 25] [⟨0, ⟨(some 26), .mov (.t 0), none⟩, []⟩,
      ⟨1, ⟨(some 27), .mov (.t 6), none⟩, []⟩,
      ⟨4, ⟨(some 30), .mov (.t 6), none⟩, []⟩,
      ⟨5, ⟨(some 31), .bin .shl .no (.k (.c (.int .i64 1))) (.t 30), none⟩, []⟩,
      ⟨6, ⟨(some 32), .bin .sub .no (.t 31) (.k (.c (.int .i64 1))), none⟩, []⟩,
      ⟨2, ⟨(some 28), .call 44 [(.t 26), (.t 27)], none⟩, []⟩,
      ⟨3, ⟨(some 29), .bin .add .no (.t 28) (.k (.c (.int .i64 1))), none⟩, []⟩,
      ⟨7, ⟨(some 33), .bin .and .no (.t 29) (.t 32), none⟩, []⟩,
      ⟨8, ⟨(some 34), .faddr 3 (.t 4), none⟩, []⟩,
      ⟨9, ⟨none, .store none (.t 34) (.t 33), none⟩, []⟩])))
    (.skip)))
  (.seq (.region [0, 1, 6, 18, 19, 26, 27, 28, 29, 30, 31, 32, 33, 34] [⟨(some 35), .load (some 4) (.t 4), none⟩,
    ⟨(some 36), .mov (.t 5), none⟩,
    ⟨none, .store (some 4) (.t 4) (.t 35), none⟩,
    ⟨(some 5), .mov (.t 36), none⟩])
  (.ret))))))
def fun45 : SFun := ⟨code45, 37, [.cell 4 (some 4), .tmp 5]⟩

/- 46 bowline/status.isMiss params #[96, 3] results #[4] -/
def ann46 : Ann := ⟨[2, 5], [(1, [0, 4]), (2, [7, 8]), (3, [1, 9, 10, 11, 12]), (4, [2, 5, 6, 13, 14, 15, 16, 17, 18, 19, 20, 21, 22, 23, 24, 25, 26, 27, 28, 29, 30, 31, 32, 33, 34]), (5, [5, 13, 14, 15, 16, 17, 18, 19, 20, 21, 22, 23, 24, 25, 26, 27, 28, 29, 30, 31, 32, 33, 34]), (6, [6, 35, 36, 37, 38]), (7, [35, 36, 37, 38]), (8, [44, 45, 46, 47]), (9, [6, 44, 45, 46, 47])]⟩
def code46 : SCode :=
  .seq (.region [] [⟨(some 2), .lbox 4 (.t 0), none⟩,
    ⟨(some 4), .mov (.k (.c (.bool false))), none⟩])
  (.seq (.region [0, 4] [⟨(some 7), .mov (.t 1), none⟩,
    ⟨(some 8), .build [(.c (.int .i64 0))] [(0, 1, (.t 7))], none⟩,
    ⟨(some 5), .lnew [(.c (.int .i64 0))], none⟩,
    ⟨none, .store (some 1) (.t 5) (.t 8), none⟩])
  (.seq (.region [7, 8] [⟨(some 9), .mov (.t 1), none⟩,
    ⟨(some 10), .call 65 [(.t 9)], none⟩,
    ⟨(some 11), .bin .shl .no (.k (.c (.int .i64 1))) (.t 10), none⟩,
    ⟨(some 12), .bin .sub .no (.t 11) (.k (.c (.int .i64 1))), none⟩,
    ⟨(some 6), .mov (.t 12), none⟩])
  (.seq (.block 0 (.seq (.region [1, 9, 10, 11, 12] [⟨(some 14), .load (some 1) (.t 5), none⟩,
      ⟨(some 15), .faddr 0 (.t 2), none⟩,
      ⟨(some 16), .load none (.t 15), none⟩,
      ⟨(some 17), .call 71 [(.t 14), (.t 16)], none⟩,
      ⟨(some 18), .un .not (.t 17), none⟩,
      ⟨(some 19), .mov (.t 18), none⟩,
      ⟨(some 20), .faddr 2 (.t 2), some (19, false)⟩,
      ⟨(some 21), .load none (.t 20), some (19, false)⟩,
      ⟨(some 22), .bin .lss .no (.t 21) (.k (.c (.int .i64 0))), some (19, false)⟩,
      ⟨(some 23), .pick (.t 19) (.k (.c (.bool true))) (.t 22), none⟩,
      ⟨(some 24), .mov (.t 23), none⟩,
      ⟨(some 25), .faddr 3 (.t 2), some (24, false)⟩,
      ⟨(some 26), .load none (.t 25), some (24, false)⟩,
      ⟨(some 27), .bin .lss .no (.t 26) (.k (.c (.int .i64 0))), some (24, false)⟩,
      ⟨(some 28), .pick (.t 24) (.k (.c (.bool true))) (.t 27), none⟩,
      ⟨(some 29), .mov (.t 28), none⟩,
      ⟨(some 30), .faddr 3 (.t 2), some (29, false)⟩,
      ⟨(some 31), .load none (.t 30), some (29, false)⟩,
      ⟨(some 32), .mov (.t 6), some (29, false)⟩,
      ⟨(some 33), .bin .gtr .no (.t 31) (.t 32), some (29, false)⟩,
      ⟨(some 34), .pick (.t 29) (.k (.c (.bool true))) (.t 33), none⟩,
      ⟨(some 13), .mov (.t 34), none⟩])
    (.cond (.t 13)
      (.seq (.region [2, 5, 6, 13, 14, 15, 16, 17, 18, 19, 20, 21, 22, 23, 24, 25, 26, 27, 28, 29, 30, 31, 32, 33, 34] [⟨(some 4), .mov (.k (.c (.bool false))), none⟩])
      (.ret))
      (.seq (.region [5, 13, 14, 15, 16, 17, 18, 19, 20, 21, 22, 23, 24, 25, 26, 27, 28, 29, 30, 31, 32, 33, 34] [⟨(some 36), .faddr 1 (.t 2), none⟩,
        ⟨(some 37), .load none (.t 36), none⟩,
        ⟨(some 38), .un .not (.t 37), none⟩,
        ⟨(some 35), .mov (.t 38), none⟩])
      (.cond (.t 35)
        (.seq (.region [6, 35, 36, 37, 38] [⟨(some 39), .load (some 4) (.t 2), none⟩,
          ⟨(some 40), .faddr 0 (.t 2), none⟩,
          ⟨(some 41), .load none (.t 40), none⟩,
          ⟨(some 42), .build [(.c (.int .i64 0)), (.c (.bool false)), (.c (.int .i64 0)), (.c (.int .i64 0))] [(0, 1, (.t 41))], none⟩,
          ⟨(some 43), .bin .eql (.agg [.i, .b, .i, .i]) (.t 39) (.t 42), none⟩,
          ⟨(some 4), .mov (.t 43), none⟩])
        (.ret))
        (.seq (.region [35, 36, 37, 38] [⟨(some 45), .faddr 3 (.t 2), none⟩,
          ⟨(some 46), .load none (.t 45), none⟩,
          ⟨(some 47), .bin .eql .no (.t 46) (.k (.c (.int .i64 0))), none⟩,
          ⟨(some 44), .mov (.t 47), none⟩])
        (.cond (.t 44)
          (.seq (.region [44, 45, 46, 47] [⟨(some 48), .faddr 2 (.t 2), none⟩,
            ⟨(some 49), .load none (.t 48), none⟩,
            ⟨(some 50), .mov (.t 6), none⟩,
            ⟨(some 51), .bin .leq .no (.t 49) (.t 50), none⟩,
            ⟨(some 4), .mov (.t 51), none⟩])
          (.ret))
          (.skip))))))))
  (.seq (.region [6, 44, 45, 46, 47] [⟨(some 52), .faddr 2 (.t 2), none⟩,
    ⟨(some 53), .load none (.t 52), none⟩,
    ⟨(some 54), .faddr 3 (.t 2), none⟩,
    ⟨(some 55), .load none (.t 54), none⟩,
    ⟨(some 56), .bin .lss .no (.t 53) (.t 55), none⟩,
    ⟨(some 4), .mov (.t 56), none⟩])
  (.ret)))))
def fun46 : SFun := ⟨code46, 57, [.tmp 4]⟩

/- 47 (*bowline/bits.Reader).Rest params #[82] results #[29, 25] -/
def ann47 : Ann := ⟨[], [(1, [2, 3]), (2, [0, 8, 9]), (3, [8, 9]), (4, [10, 11, 12, 13]), (5, [6, 14, 15, 16, 17, 18, 19, 20, 21, 22, 23, 24, 25]), (6, [5, 26, 27]), (7, [0, 4, 28, 29, 30, 31]), (8, [4, 5, 26, 27]), (9, [32, 33, 34, 35, 36, 37, 38, 39, 40, 41, 42]), (10, [0, 43, 44, 45, 46, 47, 48, 49, 50, 51])]⟩
def code47 : SCode :=
  .seq (.region [] [⟨(some 2), .mov (.k (.c (.slice none 0 0))), none⟩,
    ⟨(some 3), .mov (.k (.c (.int .i64 0))), none⟩])
  (.seq (.seq (.region [2, 3] [⟨(some 8), .mov (.t 0), none⟩,
    ⟨(some 9), .bin .eql .ptr (.t 8) (.k (.c (.pointer none))), none⟩])
  (.cond (.t 9)
    (.seq (.region [0, 8, 9] [⟨(some 2), .mov (.k (.c (.slice none 0 0))), none⟩,
      ⟨(some 3), .mov (.k (.c (.int .i64 6))), none⟩])
    (.ret))
    (.skip)))
  (.seq (.region [8, 9] [⟨(some 10), .mov (.t 0), none⟩,
    ⟨(some 11), .chk (.t 10), none⟩,
    ⟨(some 12), .faddr 1 (.t 11), none⟩,
    ⟨(some 13), .load none (.t 12), none⟩,
    ⟨(some 4), .mov (.t 13), none⟩])
  (.seq (.region [10, 11, 12, 13] [⟨(some 15), .mov (.t 0), none⟩,
    ⟨(some 16), .mov (.t 0), none⟩,
    ⟨(some 17), .chk (.t 16), none⟩,
    ⟨(some 18), .faddr 1 (.t 17), none⟩,
    ⟨(some 19), .load none (.t 18), none⟩,
    ⟨(some 20), .bin .rem .no (.t 19) (.k (.c (.int .i64 8))), none⟩,
    ⟨(some 21), .bin .sub .no (.k (.c (.int .i64 8))) (.t 20), none⟩,
    ⟨(some 22), .bin .rem .no (.t 21) (.k (.c (.int .i64 8))), none⟩,
    ⟨(some 23), .call 40 [(.t 15), (.t 22)], none⟩,
    ⟨(some 14), .mov (.t 23), none⟩,
    ⟨(some 24), .ext (.t 14) 0, none⟩,
    ⟨(some 25), .ext (.t 14) 1, none⟩,
    ⟨(some 5), .mov (.t 24), none⟩,
    ⟨(some 6), .mov (.t 25), none⟩])
  (.seq (.seq (.region [6, 14, 15, 16, 17, 18, 19, 20, 21, 22, 23, 24, 25] [⟨(some 26), .mov (.t 5), none⟩,
    ⟨(some 27), .bin .neq .no (.t 26) (.k (.c (.int .u64 0))), none⟩])
  (.cond (.t 27)
    (.seq (.region [5, 26, 27] [⟨(some 28), .mov (.t 0), none⟩,
      ⟨(some 29), .mov (.t 4), none⟩,
      ⟨(some 30), .chk (.t 28), none⟩,
      ⟨(some 31), .faddr 1 (.t 30), none⟩,
      ⟨none, .store none (.t 31) (.t 29), none⟩])
    (.seq (.region [0, 4, 28, 29, 30, 31] [⟨(some 2), .mov (.k (.c (.slice none 0 0))), none⟩,
      ⟨(some 3), .mov (.k (.c (.int .i64 3))), none⟩])
    (.ret)))
    (.skip)))
  (.seq (.drawn [4, 5, 26, 27] [⟨0, ⟨(some 32), .mov (.t 0), none⟩, []⟩,
    ⟨1, ⟨(some 33), .chk (.t 32), none⟩, []⟩,
    ⟨2, ⟨(some 34), .faddr 0 (.t 33), none⟩, []⟩,
    ⟨3, ⟨(some 35), .load none (.t 34), none⟩, []⟩,
    ⟨4, ⟨(some 36), .mov (.t 0), none⟩, []⟩,
    ⟨5, ⟨(some 37), .chk (.t 36), none⟩, []⟩,
    ⟨6, ⟨(some 38), .faddr 1 (.t 37), none⟩, []⟩,
    ⟨7, ⟨(some 39), .load none (.t 38), none⟩, []⟩,
    ⟨8, ⟨(some 40), .bin .quo .no (.t 39) (.k (.c (.int .i64 8))), none⟩, []⟩,
    ⟨9, ⟨(some 41), .cut (.slice 1) (.t 35) (some (.t 40)) none none, none⟩, []⟩,
    ⟨10, ⟨(some 42), .call 26 [(.t 41)], none⟩, []⟩,
    ⟨11, ⟨(some 7), .mov (.t 42), none⟩, []⟩])
  (.seq (.region [32, 33, 34, 35, 36, 37, 38, 39, 40, 41, 42] [⟨(some 43), .mov (.t 0), none⟩,
    ⟨(some 44), .mov (.t 0), none⟩,
    ⟨(some 45), .chk (.t 44), none⟩,
    ⟨(some 46), .faddr 0 (.t 45), none⟩,
    ⟨(some 47), .load none (.t 46), none⟩,
    ⟨(some 48), .len .sl (.t 47), none⟩,
    ⟨(some 49), .bin .mul .no (.t 48) (.k (.c (.int .i64 8))), none⟩,
    ⟨(some 50), .chk (.t 43), none⟩,
    ⟨(some 51), .faddr 1 (.t 50), none⟩,
    ⟨none, .store none (.t 51) (.t 49), none⟩])
  (.seq (.region [0, 43, 44, 45, 46, 47, 48, 49, 50, 51] [⟨(some 52), .mov (.t 7), none⟩,
    ⟨(some 2), .mov (.t 52), none⟩,
    ⟨(some 3), .mov (.k (.c (.int .i64 0))), none⟩])
  (.ret))))))))
def fun47 : SFun := ⟨code47, 53, [.tmp 2, .tmp 3]⟩

/- 48 bowline/amd.isWidth params #[3] results #[4] -/
def ann48 : Ann := ⟨[], [(1, [2])]⟩
def code48 : SCode :=
  .seq (.region [] [⟨(some 2), .mov (.k (.c (.bool false))), none⟩])
  (.seq (.region [2] [⟨(some 3), .mov (.t 0), none⟩,
    ⟨(some 4), .bin .eql .no (.t 3) (.k (.c (.int .i64 10))), none⟩,
    ⟨(some 5), .mov (.t 4), none⟩,
    ⟨(some 6), .mov (.t 0), some (5, false)⟩,
    ⟨(some 7), .bin .eql .no (.t 6) (.k (.c (.int .i64 16))), some (5, false)⟩,
    ⟨(some 8), .pick (.t 5) (.k (.c (.bool true))) (.t 7), none⟩,
    ⟨(some 2), .mov (.t 8), none⟩])
  (.ret))
def fun48 : SFun := ⟨code48, 9, [.tmp 2]⟩

/- 49 bowline/amd.Head params #[4, 3] results #[3] -/
def ann49 : Ann := ⟨[], [(1, [4]), (2, [0, 1, 6, 7, 8]), (3, [6, 7, 8]), (5, [1, 5, 9, 10]), (6, [1, 9, 10]), (7, [0, 11]), (8, [0, 11, 12, 13])]⟩
def code49 : SCode :=
  .seq (.region [] [⟨(some 4), .mov (.k (.c (.int .i64 0))), none⟩])
  (.seq (.seq (.region [4] [⟨(some 6), .mov (.t 1), none⟩,
    ⟨(some 7), .call 48 [(.t 6)], none⟩,
    ⟨(some 8), .un .not (.t 7), none⟩])
  (.cond (.t 8)
    (.seq (.region [0, 1, 6, 7, 8] [⟨(some 4), .mov (.k (.c (.int .i64 0))), none⟩])
    (.ret))
    (.skip)))
  (.seq (.region [6, 7, 8] [⟨(some 5), .mov (.k (.c (.int .i64 2))), none⟩])
  (.seq (.seq (.region [] [⟨(some 9), .mov (.t 1), none⟩,
    ⟨(some 10), .bin .eql .no (.t 9) (.k (.c (.int .i64 16))), none⟩])
  (.cond (.t 10)
    (.region [1, 5, 9, 10] [⟨(some 5), .mov (.k (.c (.int .i64 3))), none⟩])
    (.skip)))
  (.seq (.seq (.region [1, 9, 10] [⟨(some 11), .mov (.t 0), none⟩])
  (.cond (.t 11)
    (.region [0, 11] [⟨(some 12), .mov (.t 5), none⟩,
      ⟨(some 13), .bin .add .no (.t 12) (.k (.c (.int .i64 2))), none⟩,
      ⟨(some 5), .mov (.t 13), none⟩])
    (.skip)))
  (.seq (.region [0, 11, 12, 13] [⟨(some 14), .mov (.t 5), none⟩,
    ⟨(some 4), .mov (.t 14), none⟩])
  (.ret))))))
def fun49 : SFun := ⟨code49, 15, [.tmp 4]⟩

/- 50 bowline/amd.readHead params #[82, 3] results #[34, 4, 4] -/
def ann50 : Ann := ⟨[4], [(1, [0, 5, 6]), (2, [2, 8]), (3, [9, 10]), (4, [11, 12, 13, 14]), (5, [15, 16, 17, 18]), (6, [19, 20, 21, 22]), (7, [23, 24, 25]), (9, [6, 26, 27]), (10, [28, 29, 30, 31]), (11, [26, 27, 32, 33, 34, 35, 36, 37, 38, 39, 40, 41, 42, 43]), (12, [44, 45, 46, 47, 48]), (13, [49, 50, 51, 52, 53, 54]), (14, [49, 50, 51, 52, 53, 54, 55, 56, 57, 58]), (15, [59, 60]), (16, [1, 7, 59, 60, 61, 62, 63, 64, 65, 66])]⟩
def code50 : SCode :=
  .seq (.region [] [⟨(some 2), .box 1 (.t 0), none⟩,
    ⟨(some 4), .lnew [(.c (.bool false)), (.c (.int .i64 0)), (.c (.int .i64 0)), (.c (.bool false)), (.c (.bool false)), (.c (.int .i64 0)), (.c (.slice none 0 0))], none⟩,
    ⟨(some 5), .mov (.k (.c (.bool false))), none⟩,
    ⟨(some 6), .mov (.k (.c (.bool false))), none⟩])
  (.seq (.region [0, 5, 6] [⟨(some 8), .mkfn 72 [(.t 2)], none⟩,
    ⟨(some 7), .mov (.t 8), none⟩])
  (.seq (.region [2, 8] [⟨(some 9), .mov (.t 7), none⟩,
    ⟨(some 10), .callv (.t 9) [(.k (.c (.int .i64 1)))], none⟩])
  (.seq (.region [9, 10] [⟨(some 11), .mov (.t 7), none⟩,
    ⟨(some 12), .callv (.t 11) [(.k (.c (.int .i64 1)))], none⟩,
    ⟨(some 13), .bin .eql .no (.t 12) (.k (.c (.int .u64 1))), none⟩,
    ⟨(some 14), .faddr 3 (.t 4), none⟩,
    ⟨none, .store none (.t 14) (.t 13), none⟩])
  (.seq (.region [11, 12, 13, 14] [⟨(some 15), .mov (.t 7), none⟩,
    ⟨(some 16), .callv (.t 15) [(.k (.c (.int .i64 1)))], none⟩,
    ⟨(some 17), .bin .eql .no (.t 16) (.k (.c (.int .u64 1))), none⟩,
    ⟨(some 18), .faddr 0 (.t 4), none⟩,
    ⟨none, .store none (.t 18) (.t 17), none⟩])
  (.seq (.region [15, 16, 17, 18] [⟨(some 19), .mov (.t 7), none⟩,
    ⟨(some 20), .callv (.t 19) [(.k (.c (.int .i64 2)))], none⟩,
    ⟨(some 21), .conv (.int .i64) (.t 20), none⟩,
    ⟨(some 22), .faddr 1 (.t 4), none⟩,
    ⟨none, .store none (.t 22) (.t 21), none⟩])
  (.seq (.region [19, 20, 21, 22] [⟨(some 23), .mov (.t 7), none⟩,
    ⟨(some 24), .callv (.t 23) [(.k (.c (.int .i64 1)))], none⟩,
    ⟨(some 25), .bin .eql .no (.t 24) (.k (.c (.int .u64 1))), none⟩,
    ⟨(some 5), .mov (.t 25), none⟩])
  (.seq (.region [23, 24, 25] [⟨(some 6), .mov (.k (.c (.bool true))), none⟩])
  (.seq (.seq (.region [] [⟨(some 26), .mov (.t 1), none⟩,
    ⟨(some 27), .bin .eql .no (.t 26) (.k (.c (.int .i64 16))), none⟩])
  (.cond (.t 27)
    (.seq (.region [6, 26, 27] [⟨(some 28), .mov (.t 7), none⟩,
      ⟨(some 29), .callv (.t 28) [(.k (.c (.int .i64 1)))], none⟩,
      ⟨(some 30), .bin .eql .no (.t 29) (.k (.c (.int .u64 1))), none⟩,
      ⟨(some 31), .faddr 4 (.t 4), none⟩,
      ⟨none, .store none (.t 31) (.t 30), none⟩])
    (.region [28, 29, 30, 31] [⟨(some 32), .mov (.t 7), none⟩,
      ⟨(some 33), .callv (.t 32) [(.k (.c (.int .i64 1)))], none⟩,
      ⟨(some 34), .bin .eql .no (.t 33) (.k (.c (.int .u64 0))), none⟩,
      ⟨(some 35), .mov (.t 34), none⟩,
      ⟨(some 36), .faddr 3 (.t 4), some (35, true)⟩,
      ⟨(some 37), .load none (.t 36), some (35, true)⟩,
      ⟨(some 38), .mov (.t 37), some (35, true)⟩,
      ⟨(some 39), .faddr 4 (.t 4), some (38, false)⟩,
      ⟨(some 40), .load none (.t 39), some (38, false)⟩,
      ⟨(some 41), .un .not (.t 40), some (38, false)⟩,
      ⟨(some 42), .pick (.t 38) (.k (.c (.bool true))) (.t 41), some (35, true)⟩,
      ⟨(some 43), .pick (.t 35) (.t 42) (.k (.c (.bool false))), none⟩,
      ⟨(some 6), .mov (.t 43), none⟩]))
    (.skip)))
  (.seq (.region [26, 27, 32, 33, 34, 35, 36, 37, 38, 39, 40, 41, 42, 43] [⟨(some 44), .mov (.t 7), none⟩,
    ⟨(some 45), .mov (.t 1), none⟩,
    ⟨(some 46), .callv (.t 44) [(.t 45)], none⟩,
    ⟨(some 47), .conv (.int .i64) (.t 46), none⟩,
    ⟨(some 48), .faddr 2 (.t 4), none⟩,
    ⟨none, .store none (.t 48) (.t 47), none⟩])
  (.seq (.seq (.region [44, 45, 46, 47, 48] [⟨(some 49), .faddr 3 (.t 4), none⟩,
    ⟨(some 50), .load none (.t 49), none⟩,
    ⟨(some 51), .mov (.t 50), none⟩,
    ⟨(some 52), .mov (.t 1), some (51, true)⟩,
    ⟨(some 53), .bin .eql .no (.t 52) (.k (.c (.int .i64 10))), some (51, true)⟩,
    ⟨(some 54), .pick (.t 51) (.t 53) (.k (.c (.bool false))), none⟩])
  (.cond (.t 54)
    (.region [49, 50, 51, 52, 53, 54] [⟨(some 55), .mov (.t 7), none⟩,
      ⟨(some 56), .callv (.t 55) [(.k (.c (.int .i64 1)))], none⟩,
      ⟨(some 57), .bin .eql .no (.t 56) (.k (.c (.int .u64 1))), none⟩,
      ⟨(some 58), .faddr 4 (.t 4), none⟩,
      ⟨none, .store none (.t 58) (.t 57), none⟩])
    (.skip)))
  (.seq (.seq (.region [49, 50, 51, 52, 53, 54, 55, 56, 57, 58] [⟨(some 59), .faddr 3 (.t 4), none⟩,
    ⟨(some 60), .load none (.t 59), none⟩])
  (.cond (.t 60)
    (.region [59, 60] [⟨(some 61), .mov (.t 7), none⟩,
      ⟨(some 62), .mov (.t 1), none⟩,
      ⟨(some 63), .call 73 [(.t 62)], none⟩,
      ⟨(some 64), .callv (.t 61) [(.t 63)], none⟩,
      ⟨(some 65), .conv (.int .i64) (.t 64), none⟩,
      ⟨(some 66), .faddr 5 (.t 4), none⟩,
      ⟨none, .store none (.t 66) (.t 65), none⟩])
    (.skip)))
  (.seq (.region [1, 7, 59, 60, 61, 62, 63, 64, 65, 66] [⟨(some 67), .load (some 7) (.t 4), none⟩,
    ⟨(some 68), .mov (.t 5), none⟩,
    ⟨(some 69), .mov (.t 6), none⟩,
    ⟨none, .store (some 7) (.t 4) (.t 67), none⟩,
    ⟨(some 5), .mov (.t 68), none⟩,
    ⟨(some 6), .mov (.t 69), none⟩])
  (.ret)))))))))))))
def fun50 : SFun := ⟨code50, 70, [.cell 4 (some 7), .tmp 5, .tmp 6]⟩

/- 51 bowline/amd.lenWidth params #[3] results #[3] -/
def ann51 : Ann := ⟨[], [(1, [2]), (2, [0, 3, 4]), (3, [0, 3, 4])]⟩
def code51 : SCode :=
  .seq (.region [] [⟨(some 2), .mov (.k (.c (.int .i64 0))), none⟩])
  (.seq (.seq (.region [2] [⟨(some 3), .mov (.t 0), none⟩,
    ⟨(some 4), .bin .eql .no (.t 3) (.k (.c (.int .i64 10))), none⟩])
  (.cond (.t 4)
    (.seq (.region [0, 3, 4] [⟨(some 2), .mov (.k (.c (.int .i64 11))), none⟩])
    (.ret))
    (.skip)))
  (.seq (.region [0, 3, 4] [⟨(some 2), .mov (.k (.c (.int .i64 15))), none⟩])
  (.ret)))
def fun51 : SFun := ⟨code51, 5, [.tmp 2]⟩

/- 52 bowline/amd.fields params #[29, 87] results #[30, 25] -/
def ann52 : Ann := ⟨[], [(1, [4, 5]), (2, [0, 1, 8, 9]), (3, [8, 9]), (5, [41, 42]), (6, [10, 11, 12, 13]), (7, [0, 1, 6, 7, 14, 15, 16, 17, 18, 19, 20]), (8, [14, 15, 16, 17, 18, 19, 20]), (9, [21, 22, 23, 24, 25, 26, 27, 28, 29, 30, 31, 32, 33, 34]), (10, [35, 36, 37, 38, 39, 40]), (11, [1, 7, 10, 11, 12, 13]), (12, [0, 6, 43, 44, 45]), (13, [43, 44, 45])]⟩
def sc52_0 : SCode :=
  .seq (.skip)
  (.seq (.seq (.region [41, 42] [⟨(some 10), .mov (.t 7), none⟩,
    ⟨(some 11), .mov (.t 1), none⟩,
    ⟨(some 12), .len .sl (.t 11), none⟩,
    ⟨(some 13), .bin .lss .no (.t 10) (.t 12), none⟩])
  (.cond (.t 13)
    (.seq (.seq (.region [10, 11, 12, 13] [⟨(some 14), .mov (.t 1), none⟩,
      ⟨(some 15), .mov (.t 7), none⟩,
      ⟨(some 16), .iaddr 1 none (.t 14) (.t 15), none⟩,
      ⟨(some 17), .load none (.t 16), none⟩,
      ⟨(some 18), .mov (.t 0), none⟩,
      ⟨(some 19), .len .sl (.t 18), none⟩,
      ⟨(some 20), .bin .gtr .no (.t 17) (.t 19), none⟩])
    (.cond (.t 20)
      (.seq (.region [0, 1, 6, 7, 14, 15, 16, 17, 18, 19, 20] [⟨(some 4), .mov (.k (.c (.slice none 0 0))), none⟩,
        ⟨(some 5), .mov (.k (.c (.int .i64 8))), none⟩])
      (.ret))
      (.skip)))
    (.seq (.drawn [14, 15, 16, 17, 18, 19, 20] [⟨0, ⟨(some 21), .mov (.t 6), none⟩, []⟩,
      ⟨1, ⟨(some 22), .mov (.t 0), none⟩, []⟩,
      ⟨2, ⟨(some 23), .mov (.t 1), none⟩, []⟩,
      ⟨3, ⟨(some 24), .mov (.t 7), none⟩, []⟩,
      ⟨4, ⟨(some 25), .iaddr 1 none (.t 23) (.t 24), none⟩, []⟩,
      ⟨5, ⟨(some 26), .load none (.t 25), none⟩, []⟩,
      ⟨6, ⟨(some 27), .mov (.t 1), none⟩, []⟩,
      ⟨7, ⟨(some 28), .mov (.t 7), none⟩, []⟩,
      ⟨8, ⟨(some 29), .iaddr 1 none (.t 27) (.t 28), none⟩, []⟩,
      ⟨9, ⟨(some 30), .load none (.t 29), none⟩, []⟩,
      ⟨10, ⟨(some 31), .cut (.slice 1) (.t 22) none (some (.t 26)) (some (.t 30)), none⟩, []⟩,
      ⟨11, ⟨(some 32), .call 26 [(.t 31)], none⟩, []⟩,
      ⟨12, ⟨(some 33), .bslice 1 1 [(.c (.slice none 0 0))] [(0, 1, (.t 32))], none⟩, []⟩,
      ⟨13, ⟨(some 34), .append 1 24 (.t 21) (.t 33), none⟩, []⟩,
      ⟨14, ⟨(some 6), .mov (.t 34), none⟩, []⟩])
    (.seq (.region [21, 22, 23, 24, 25, 26, 27, 28, 29, 30, 31, 32, 33, 34] [⟨(some 35), .mov (.t 0), none⟩,
      ⟨(some 36), .mov (.t 1), none⟩,
      ⟨(some 37), .mov (.t 7), none⟩,
      ⟨(some 38), .iaddr 1 none (.t 36) (.t 37), none⟩,
      ⟨(some 39), .load none (.t 38), none⟩,
      ⟨(some 40), .cut (.slice 1) (.t 35) (some (.t 39)) none none, none⟩,
      ⟨(some 0), .mov (.t 40), none⟩])
    (.seq (.region [35, 36, 37, 38, 39, 40] [⟨(some 41), .mov (.t 7), none⟩,
      ⟨(some 42), .bin .add .no (.t 41) (.k (.c (.int .i64 1))), none⟩,
      ⟨(some 7), .mov (.t 42), none⟩])
    (.goto 0)))))
    (.skip)))
  (.seq (.seq (.region [1, 7, 10, 11, 12, 13] [⟨(some 43), .mov (.t 0), none⟩,
    ⟨(some 44), .len .sl (.t 43), none⟩,
    ⟨(some 45), .bin .eql .no (.t 44) (.k (.c (.int .i64 0))), none⟩])
  (.cond (.t 45)
    (.seq (.region [0, 6, 43, 44, 45] [⟨(some 4), .mov (.k (.c (.slice none 0 0))), none⟩,
      ⟨(some 5), .mov (.k (.c (.int .i64 8))), none⟩])
    (.ret))
    (.skip)))
  (.seq (.region [43, 44, 45] [⟨(some 46), .mov (.t 6), none⟩,
    ⟨(some 47), .mov (.t 0), none⟩,
    ⟨(some 48), .call 26 [(.t 47)], none⟩,
    ⟨(some 49), .bslice 1 1 [(.c (.slice none 0 0))] [(0, 1, (.t 48))], none⟩,
    ⟨(some 50), .append 1 24 (.t 46) (.t 49), none⟩,
    ⟨(some 4), .mov (.t 50), none⟩,
    ⟨(some 5), .mov (.k (.c (.int .i64 0))), none⟩])
  (.ret))))
def code52 : SCode :=
  .seq (.region [] [⟨(some 4), .mov (.k (.c (.slice none 0 0))), none⟩,
    ⟨(some 5), .mov (.k (.c (.int .i64 0))), none⟩])
  (.scope (.seq (.seq (.region [4, 5] [⟨(some 8), .mov (.t 1), none⟩,
      ⟨(some 9), .call 74 [(.t 8), (.k (.fn 75 []))], none⟩])
    (.cond (.t 9)
      (.seq (.region [0, 1, 8, 9] [⟨(some 4), .mov (.k (.c (.slice none 0 0))), none⟩,
        ⟨(some 5), .mov (.k (.c (.int .i64 3))), none⟩])
      (.ret))
      (.skip)))
    (.seq (.region [8, 9] [⟨(some 6), .mov (.k (.c (.slice none 0 0))), none⟩])
    (.seq (.region [] [⟨(some 7), .mov (.k (.c (.int .i64 0))), none⟩])
    (.seq (.label 0)
    (.seq (.seq (.region [41, 42] [⟨(some 10), .mov (.t 7), none⟩,
      ⟨(some 11), .mov (.t 1), none⟩,
      ⟨(some 12), .len .sl (.t 11), none⟩,
      ⟨(some 13), .bin .lss .no (.t 10) (.t 12), none⟩])
    (.cond (.t 13)
      (.seq (.seq (.region [10, 11, 12, 13] [⟨(some 14), .mov (.t 1), none⟩,
        ⟨(some 15), .mov (.t 7), none⟩,
        ⟨(some 16), .iaddr 1 none (.t 14) (.t 15), none⟩,
        ⟨(some 17), .load none (.t 16), none⟩,
        ⟨(some 18), .mov (.t 0), none⟩,
        ⟨(some 19), .len .sl (.t 18), none⟩,
        ⟨(some 20), .bin .gtr .no (.t 17) (.t 19), none⟩])
      (.cond (.t 20)
        (.seq (.region [0, 1, 6, 7, 14, 15, 16, 17, 18, 19, 20] [⟨(some 4), .mov (.k (.c (.slice none 0 0))), none⟩,
          ⟨(some 5), .mov (.k (.c (.int .i64 8))), none⟩])
        (.ret))
        (.skip)))
      (.seq (.drawn [14, 15, 16, 17, 18, 19, 20] [⟨0, ⟨(some 21), .mov (.t 6), none⟩, []⟩,
        ⟨1, ⟨(some 22), .mov (.t 0), none⟩, []⟩,
        ⟨2, ⟨(some 23), .mov (.t 1), none⟩, []⟩,
        ⟨3, ⟨(some 24), .mov (.t 7), none⟩, []⟩,
        ⟨4, ⟨(some 25), .iaddr 1 none (.t 23) (.t 24), none⟩, []⟩,
        ⟨5, ⟨(some 26), .load none (.t 25), none⟩, []⟩,
        ⟨6, ⟨(some 27), .mov (.t 1), none⟩, []⟩,
        ⟨7, ⟨(some 28), .mov (.t 7), none⟩, []⟩,
        ⟨8, ⟨(some 29), .iaddr 1 none (.t 27) (.t 28), none⟩, []⟩,
        ⟨9, ⟨(some 30), .load none (.t 29), none⟩, []⟩,
        ⟨10, ⟨(some 31), .cut (.slice 1) (.t 22) none (some (.t 26)) (some (.t 30)), none⟩, []⟩,
        ⟨11, ⟨(some 32), .call 26 [(.t 31)], none⟩, []⟩,
        ⟨12, ⟨(some 33), .bslice 1 1 [(.c (.slice none 0 0))] [(0, 1, (.t 32))], none⟩, []⟩,
        ⟨13, ⟨(some 34), .append 1 24 (.t 21) (.t 33), none⟩, []⟩,
        ⟨14, ⟨(some 6), .mov (.t 34), none⟩, []⟩])
      (.seq (.region [21, 22, 23, 24, 25, 26, 27, 28, 29, 30, 31, 32, 33, 34] [⟨(some 35), .mov (.t 0), none⟩,
        ⟨(some 36), .mov (.t 1), none⟩,
        ⟨(some 37), .mov (.t 7), none⟩,
        ⟨(some 38), .iaddr 1 none (.t 36) (.t 37), none⟩,
        ⟨(some 39), .load none (.t 38), none⟩,
        ⟨(some 40), .cut (.slice 1) (.t 35) (some (.t 39)) none none, none⟩,
        ⟨(some 0), .mov (.t 40), none⟩])
      (.seq (.region [35, 36, 37, 38, 39, 40] [⟨(some 41), .mov (.t 7), none⟩,
        ⟨(some 42), .bin .add .no (.t 41) (.k (.c (.int .i64 1))), none⟩,
        ⟨(some 7), .mov (.t 42), none⟩])
      (.goto 0)))))
      (.skip)))
    (.seq (.seq (.region [1, 7, 10, 11, 12, 13] [⟨(some 43), .mov (.t 0), none⟩,
      ⟨(some 44), .len .sl (.t 43), none⟩,
      ⟨(some 45), .bin .eql .no (.t 44) (.k (.c (.int .i64 0))), none⟩])
    (.cond (.t 45)
      (.seq (.region [0, 6, 43, 44, 45] [⟨(some 4), .mov (.k (.c (.slice none 0 0))), none⟩,
        ⟨(some 5), .mov (.k (.c (.int .i64 8))), none⟩])
      (.ret))
      (.skip)))
    (.seq (.region [43, 44, 45] [⟨(some 46), .mov (.t 6), none⟩,
      ⟨(some 47), .mov (.t 0), none⟩,
      ⟨(some 48), .call 26 [(.t 47)], none⟩,
      ⟨(some 49), .bslice 1 1 [(.c (.slice none 0 0))] [(0, 1, (.t 48))], none⟩,
      ⟨(some 50), .append 1 24 (.t 46) (.t 49), none⟩,
      ⟨(some 4), .mov (.t 50), none⟩,
      ⟨(some 5), .mov (.k (.c (.int .i64 0))), none⟩])
    (.ret)))))))) 0 sc52_0)
def fun52 : SFun := ⟨code52, 51, [.tmp 4, .tmp 5]⟩

/- 53 bowline/umd.Right params #[32, 3] results #[4] -/
def ann53 : Ann := ⟨[2], [(1, [0, 4])]⟩
def code53 : SCode :=
  .seq (.region [] [⟨(some 2), .lbox 3 (.t 0), none⟩,
    ⟨(some 4), .mov (.k (.c (.bool false))), none⟩])
  (.seq (.region [0, 4] [⟨(some 5), .load (some 3) (.t 2), none⟩,
    ⟨(some 6), .mov (.t 1), none⟩,
    ⟨(some 7), .call 76 [(.t 5), (.t 6)], none⟩,
    ⟨(some 8), .bin .gtr .no (.t 7) (.k (.c (.int .i64 0))), none⟩,
    ⟨(some 4), .mov (.t 8), none⟩])
  (.ret))
def fun53 : SFun := ⟨code53, 9, [.tmp 4]⟩

/- 54 bowline/bits.New params #[] results #[105] -/
def ann54 : Ann := ⟨[], [(1, [0])]⟩
def code54 : SCode :=
  .seq (.region [] [⟨(some 0), .mov (.k (.c (.pointer none))), none⟩])
  (.seq (.region [0] [⟨(some 1), .build [(.c (.slice none 0 0)), (.c (.int .i64 0))] [], none⟩,
    ⟨(some 2), .box 2 (.t 1), none⟩,
    ⟨(some 0), .mov (.t 2), none⟩])
  (.ret))
def fun54 : SFun := ⟨code54, 3, [.tmp 0]⟩

/- 55 (*bowline/bits.Writer).Put params #[105, 84, 3] results #[25] -/
def ann55 : Ann := ⟨[], [(1, [6]), (2, [0, 1, 2, 8, 9, 10]), (3, [8, 9, 10]), (4, [0, 1, 2, 11, 12, 13, 14, 15, 16, 17, 18, 19, 20, 21, 22, 23, 24, 25, 26, 27]), (5, [11, 12, 13, 14, 15, 16, 17, 18, 19, 20, 21, 22, 23, 24, 25, 26, 27]), (6, [0, 1, 2, 28, 29, 30, 31, 32, 33, 34, 35]), (7, [28, 29, 30, 31, 32, 33, 34, 35]), (8, [2, 36, 41, 42, 43, 44, 45, 46, 47]), (9, [37, 38]), (10, [39, 40]), (11, [0, 1, 7, 37, 38])]⟩
def sc55_0 : SCode :=
  .seq (.skip)
  (.seq (.seq (.region [2, 36, 41, 42, 43, 44, 45, 46, 47] [⟨(some 37), .mov (.t 7), none⟩,
    ⟨(some 38), .bin .gtr .no (.t 37) (.k (.c (.int .i64 0))), none⟩])
  (.cond (.t 38)
    (.seq (.region [37, 38] [⟨(some 39), .mov (.t 7), none⟩,
      ⟨(some 40), .bin .sub .no (.t 39) (.k (.c (.int .i64 1))), none⟩,
      ⟨(some 7), .mov (.t 40), none⟩])
    (.seq (.region [39, 40] [⟨(some 41), .mov (.t 0), none⟩,
      ⟨(some 42), .mov (.t 1), none⟩,
      ⟨(some 43), .mov (.t 7), none⟩,
      ⟨(some 44), .bin .shr .no (.t 42) (.t 43), none⟩,
      ⟨(some 45), .bin .and .no (.t 44) (.k (.c (.int .u64 1))), none⟩,
      ⟨(some 46), .conv (.int .u8) (.t 45), none⟩,
      ⟨(some 47), .call 77 [(.t 41), (.t 46)], none⟩])
    (.goto 0)))
    (.skip)))
  (.seq (.region [0, 1, 7, 37, 38] [⟨(some 6), .mov (.k (.c (.int .i64 0))), none⟩])
  (.ret)))
def code55 : SCode :=
  .seq (.region [] [⟨(some 6), .mov (.k (.c (.int .i64 0))), none⟩])
  (.scope (.seq (.block 0 (.seq (.region [6] [⟨(some 9), .mov (.t 0), none⟩,
        ⟨(some 10), .bin .eql .ptr (.t 9) (.k (.c (.pointer none))), none⟩,
        ⟨(some 8), .mov (.t 10), none⟩])
      (.cond (.t 8)
        (.seq (.region [0, 1, 2, 8, 9, 10] [⟨(some 6), .mov (.k (.c (.int .i64 6))), none⟩])
        (.ret))
        (.seq (.region [8, 9, 10] [⟨(some 12), .mov (.t 2), none⟩,
          ⟨(some 13), .bin .lss .no (.t 12) (.k (.c (.int .i64 0))), none⟩,
          ⟨(some 14), .mov (.t 13), none⟩,
          ⟨(some 15), .mov (.t 2), some (14, false)⟩,
          ⟨(some 16), .bin .gtr .no (.t 15) (.k (.c (.int .i64 64))), some (14, false)⟩,
          ⟨(some 17), .pick (.t 14) (.k (.c (.bool true))) (.t 16), none⟩,
          ⟨(some 18), .mov (.t 17), none⟩,
          ⟨(some 19), .mov (.t 2), some (18, false)⟩,
          ⟨(some 20), .bin .lss .no (.t 19) (.k (.c (.int .i64 64))), some (18, false)⟩,
          ⟨(some 21), .mov (.t 20), some (18, false)⟩,
          ⟨(some 22), .mov (.t 1), some (21, true)⟩,
          ⟨(some 23), .mov (.t 2), some (21, true)⟩,
          ⟨(some 24), .bin .shr .no (.t 22) (.t 23), some (21, true)⟩,
          ⟨(some 25), .bin .neq .no (.t 24) (.k (.c (.int .u64 0))), some (21, true)⟩,
          ⟨(some 26), .pick (.t 21) (.t 25) (.k (.c (.bool false))), some (18, false)⟩,
          ⟨(some 27), .pick (.t 18) (.k (.c (.bool true))) (.t 26), none⟩,
          ⟨(some 11), .mov (.t 27), none⟩])
        (.cond (.t 11)
          (.seq (.region [0, 1, 2, 11, 12, 13, 14, 15, 16, 17, 18, 19, 20, 21, 22, 23, 24, 25, 26, 27] [⟨(some 6), .mov (.k (.c (.int .i64 1))), none⟩])
          (.ret))
          (.seq (.region [11, 12, 13, 14, 15, 16, 17, 18, 19, 20, 21, 22, 23, 24, 25, 26, 27] [⟨(some 29), .mov (.t 2), none⟩,
            ⟨(some 30), .mov (.t 0), none⟩,
            ⟨(some 31), .chk (.t 30), none⟩,
            ⟨(some 32), .faddr 1 (.t 31), none⟩,
            ⟨(some 33), .load none (.t 32), none⟩,
            ⟨(some 34), .bin .sub .no (.k (.c (.int .i64 65536))) (.t 33), none⟩,
            ⟨(some 35), .bin .gtr .no (.t 29) (.t 34), none⟩,
            ⟨(some 28), .mov (.t 35), none⟩])
          (.cond (.t 28)
            (.seq (.region [0, 1, 2, 28, 29, 30, 31, 32, 33, 34, 35] [⟨(some 6), .mov (.k (.c (.int .i64 5))), none⟩])
            (.ret))
            (.skip))))))))
    (.seq (.region [28, 29, 30, 31, 32, 33, 34, 35] [⟨(some 36), .mov (.t 2), none⟩,
      ⟨(some 7), .mov (.t 36), none⟩])
    (.seq (.label 0)
    (.seq (.seq (.region [2, 36, 41, 42, 43, 44, 45, 46, 47] [⟨(some 37), .mov (.t 7), none⟩,
      ⟨(some 38), .bin .gtr .no (.t 37) (.k (.c (.int .i64 0))), none⟩])
    (.cond (.t 38)
      (.seq (.region [37, 38] [⟨(some 39), .mov (.t 7), none⟩,
        ⟨(some 40), .bin .sub .no (.t 39) (.k (.c (.int .i64 1))), none⟩,
        ⟨(some 7), .mov (.t 40), none⟩])
      (.seq (.region [39, 40] [⟨(some 41), .mov (.t 0), none⟩,
        ⟨(some 42), .mov (.t 1), none⟩,
        ⟨(some 43), .mov (.t 7), none⟩,
        ⟨(some 44), .bin .shr .no (.t 42) (.t 43), none⟩,
        ⟨(some 45), .bin .and .no (.t 44) (.k (.c (.int .u64 1))), none⟩,
        ⟨(some 46), .conv (.int .u8) (.t 45), none⟩,
        ⟨(some 47), .call 77 [(.t 41), (.t 46)], none⟩])
      (.goto 0)))
      (.skip)))
    (.seq (.region [0, 1, 7, 37, 38] [⟨(some 6), .mov (.k (.c (.int .i64 0))), none⟩])
    (.ret)))))) 0 sc55_0)
def fun55 : SFun := ⟨code55, 48, [.tmp 6]⟩

/- 56 (*bowline/bits.Writer).Bytes params #[105] results #[29] -/
def ann56 : Ann := ⟨[], [(1, [2]), (2, [0, 3, 4]), (3, [3, 4])]⟩
def code56 : SCode :=
  .seq (.region [] [⟨(some 2), .mov (.k (.c (.slice none 0 0))), none⟩])
  (.seq (.seq (.region [2] [⟨(some 3), .mov (.t 0), none⟩,
    ⟨(some 4), .bin .eql .ptr (.t 3) (.k (.c (.pointer none))), none⟩])
  (.cond (.t 4)
    (.seq (.region [0, 3, 4] [⟨(some 2), .mov (.k (.c (.slice none 0 0))), none⟩])
    (.ret))
    (.skip)))
  (.seq (.region [3, 4] [⟨(some 5), .mov (.t 0), none⟩,
    ⟨(some 6), .chk (.t 5), none⟩,
    ⟨(some 7), .faddr 0 (.t 6), none⟩,
    ⟨(some 8), .load none (.t 7), none⟩,
    ⟨(some 9), .call 26 [(.t 8)], none⟩,
    ⟨(some 2), .mov (.t 9), none⟩])
  (.ret)))
def fun56 : SFun := ⟨code56, 10, [.tmp 2]⟩

/- 57 bowline/lens.Write params #[87, 3] results #[29, 25] -/
def ann57 : Ann := ⟨[], [(1, [4, 5]), (2, [0, 1, 10, 11, 12, 13]), (3, [10, 11, 12, 13]), (4, [0, 1, 14, 15, 16, 17]), (5, [14, 15, 16, 17]), (6, [0, 1, 18, 19, 20, 21]), (7, [18, 19, 20, 21]), (8, [22]), (9, [51]), (10, [26]), (11, [27, 28, 29]), (12, [0, 1, 6, 7, 8, 23, 24, 25, 30, 31, 32, 33, 34, 35, 36, 37]), (13, [30, 31, 32, 33, 34, 35, 36, 37]), (15, [7, 9, 38, 39, 40, 41, 42]), (16, [7, 38, 39, 40, 41, 42]), (17, [9, 43, 44, 45]), (18, [8, 46, 47, 48, 49, 50]), (19, [0, 1, 23, 24, 25, 26])]⟩
def lp57_0 : SCode :=
  .seq (.region [51] [⟨(some 26), .bin .lss .no (.t 25) (.t 24), none⟩])
  (.seq (.cond (.t 26)
    (.skip)
    (.exit 1))
  (.seq (.block 2 (.seq (.region [26] [⟨(some 27), .mov (.t 25), none⟩,
      ⟨(some 28), .iaddr 1 none (.t 23) (.t 25), none⟩,
      ⟨(some 29), .load none (.t 28), none⟩,
      ⟨(some 7), .mov (.t 27), none⟩,
      ⟨(some 8), .mov (.t 29), none⟩])
    (.seq (.seq (.region [27, 28, 29] [⟨(some 30), .mov (.t 8), none⟩,
      ⟨(some 31), .bin .lss .no (.t 30) (.k (.c (.int .i64 1))), none⟩,
      ⟨(some 32), .mov (.t 31), none⟩,
      ⟨(some 33), .mov (.t 8), some (32, false)⟩,
      ⟨(some 34), .mov (.t 1), some (32, false)⟩,
      ⟨(some 35), .bin .shl .no (.k (.c (.int .i64 1))) (.t 34), some (32, false)⟩,
      ⟨(some 36), .bin .geq .no (.t 33) (.t 35), some (32, false)⟩,
      ⟨(some 37), .pick (.t 32) (.k (.c (.bool true))) (.t 36), none⟩])
    (.cond (.t 37)
      (.seq (.region [0, 1, 6, 7, 8, 23, 24, 25, 30, 31, 32, 33, 34, 35, 36, 37] [⟨(some 4), .mov (.k (.c (.slice none 0 0))), none⟩,
        ⟨(some 5), .mov (.k (.c (.int .i64 1))), none⟩])
      (.ret))
      (.skip)))
    (.seq (.region [30, 31, 32, 33, 34, 35, 36, 37] [⟨(some 9), .mov (.k (.c (.int .u64 0))), none⟩])
    (.seq (.seq (.region [] [⟨(some 38), .mov (.t 7), none⟩,
      ⟨(some 39), .mov (.t 0), none⟩,
      ⟨(some 40), .len .sl (.t 39), none⟩,
      ⟨(some 41), .bin .sub .no (.t 40) (.k (.c (.int .i64 1))), none⟩,
      ⟨(some 42), .bin .lss .no (.t 38) (.t 41), none⟩])
    (.cond (.t 42)
      (.region [7, 9, 38, 39, 40, 41, 42] [⟨(some 9), .mov (.k (.c (.int .u64 1))), none⟩])
      (.skip)))
    (.seq (.region [7, 38, 39, 40, 41, 42] [⟨(some 43), .mov (.t 6), none⟩,
      ⟨(some 44), .mov (.t 9), none⟩,
      ⟨(some 45), .call 55 [(.t 43), (.t 44), (.k (.c (.int .i64 1)))], none⟩])
    (.region [9, 43, 44, 45] [⟨(some 46), .mov (.t 6), none⟩,
      ⟨(some 47), .mov (.t 8), none⟩,
      ⟨(some 48), .conv (.int .u64) (.t 47), none⟩,
      ⟨(some 49), .mov (.t 1), none⟩,
      ⟨(some 50), .call 55 [(.t 46), (.t 48), (.t 49)], none⟩])))))))
  (.region [8, 46, 47, 48, 49, 50] [⟨(some 51), .bin .add .no (.t 25) (.k (.c (.int .i64 1))), none⟩,
    ⟨(some 25), .mov (.t 51), none⟩])))
def code57 : SCode :=
  .seq (.region [] [⟨(some 4), .mov (.k (.c (.slice none 0 0))), none⟩,
    ⟨(some 5), .mov (.k (.c (.int .i64 0))), none⟩])
  (.seq (.block 0 (.seq (.region [4, 5] [⟨(some 11), .mov (.t 1), none⟩,
      ⟨(some 12), .call 69 [(.t 11)], none⟩,
      ⟨(some 13), .un .not (.t 12), none⟩,
      ⟨(some 10), .mov (.t 13), none⟩])
    (.cond (.t 10)
      (.seq (.region [0, 1, 10, 11, 12, 13] [⟨(some 4), .mov (.k (.c (.slice none 0 0))), none⟩,
        ⟨(some 5), .mov (.k (.c (.int .i64 9))), none⟩])
      (.ret))
      (.seq (.region [10, 11, 12, 13] [⟨(some 15), .mov (.t 0), none⟩,
        ⟨(some 16), .len .sl (.t 15), none⟩,
        ⟨(some 17), .bin .eql .no (.t 16) (.k (.c (.int .i64 0))), none⟩,
        ⟨(some 14), .mov (.t 17), none⟩])
      (.cond (.t 14)
        (.seq (.region [0, 1, 14, 15, 16, 17] [⟨(some 4), .mov (.k (.c (.slice none 0 0))), none⟩,
          ⟨(some 5), .mov (.k (.c (.int .i64 4))), none⟩])
        (.ret))
        (.seq (.region [14, 15, 16, 17] [⟨(some 19), .mov (.t 0), none⟩,
          ⟨(some 20), .len .sl (.t 19), none⟩,
          ⟨(some 21), .bin .gtr .no (.t 20) (.k (.c (.int .i64 23))), none⟩,
          ⟨(some 18), .mov (.t 21), none⟩])
        (.cond (.t 18)
          (.seq (.region [0, 1, 18, 19, 20, 21] [⟨(some 4), .mov (.k (.c (.slice none 0 0))), none⟩,
            ⟨(some 5), .mov (.k (.c (.int .i64 2))), none⟩])
          (.ret))
          (.skip))))))))
  (.seq (.region [18, 19, 20, 21] [⟨(some 22), .call 54 [], none⟩,
    ⟨(some 6), .mov (.t 22), none⟩])
  (.seq (.seq (.region [22] [⟨(some 23), .mov (.t 0), none⟩,
    ⟨(some 24), .len .sl (.t 23), none⟩,
    ⟨(some 25), .mov (.k (.c (.int .i64 0))), none⟩])
  (.block 1 (.loop lp57_0)))
  (.seq (.region [0, 1, 23, 24, 25, 26] [⟨(some 52), .mov (.t 6), none⟩,
    ⟨(some 53), .call 56 [(.t 52)], none⟩,
    ⟨(some 4), .mov (.t 53), none⟩,
    ⟨(some 5), .mov (.k (.c (.int .i64 0))), none⟩])
  (.ret)))))
def fun57 : SFun := ⟨code57, 54, [.tmp 4, .tmp 5]⟩

/- 58 bowline/umd.lengths params #[30] results #[87] -/
def ann58 : Ann := ⟨[], [(1, [2]), (3, [0, 6, 7, 8, 9, 21]), (4, [13]), (5, [14, 15]), (6, [5, 16, 17, 18, 19, 20]), (7, [10, 11, 12, 13])]⟩
def lp58_0 : SCode :=
  .seq (.region [0, 6, 7, 8, 9, 21] [⟨(some 13), .bin .lss .no (.t 12) (.t 11), none⟩])
  (.seq (.cond (.t 13)
    (.skip)
    (.exit 0))
  (.seq (.block 1 (.seq (.region [13] [⟨(some 14), .iaddr 1 none (.t 10) (.t 12), none⟩,
      ⟨(some 15), .load none (.t 14), none⟩,
      ⟨(some 5), .mov (.t 15), none⟩])
    (.region [14, 15] [⟨(some 16), .mov (.t 3), none⟩,
      ⟨(some 17), .mov (.t 5), none⟩,
      ⟨(some 18), .len .sl (.t 17), none⟩,
      ⟨(some 19), .bslice 1 1 [(.c (.int .i64 0))] [(0, 1, (.t 18))], none⟩,
      ⟨(some 20), .append 1 8 (.t 16) (.t 19), none⟩,
      ⟨(some 3), .mov (.t 20), none⟩])))
  (.region [5, 16, 17, 18, 19, 20] [⟨(some 21), .bin .add .no (.t 12) (.k (.c (.int .i64 1))), none⟩,
    ⟨(some 12), .mov (.t 21), none⟩])))
def code58 : SCode :=
  .seq (.region [] [⟨(some 2), .mov (.k (.c (.slice none 0 0))), none⟩])
  (.seq (.region [2] [⟨(some 3), .mov (.k (.c (.slice none 0 0))), none⟩])
  (.seq (.seq (.region [] [⟨(some 6), .mov (.t 0), none⟩,
    ⟨(some 7), .mov (.t 0), none⟩,
    ⟨(some 8), .len .sl (.t 7), none⟩,
    ⟨(some 9), .bin .sub .no (.t 8) (.k (.c (.int .i64 1))), none⟩,
    ⟨(some 10), .cut (.slice 1) (.t 6) none (some (.t 9)) none, none⟩,
    ⟨(some 11), .len .sl (.t 10), none⟩,
    ⟨(some 12), .mov (.k (.c (.int .i64 0))), none⟩])
  (.block 0 (.loop lp58_0)))
  (.seq (.region [10, 11, 12, 13] [⟨(some 22), .mov (.t 3), none⟩,
    ⟨(some 2), .mov (.t 22), none⟩])
  (.ret))))
def fun58 : SFun := ⟨code58, 23, [.tmp 2]⟩

/- 60 bowline/amd.Right params #[34, 3] results #[4] -/
def ann60 : Ann := ⟨[2], [(1, [0, 4])]⟩
def code60 : SCode :=
  .seq (.region [] [⟨(some 2), .lbox 7 (.t 0), none⟩,
    ⟨(some 4), .mov (.k (.c (.bool false))), none⟩])
  (.seq (.region [0, 4] [⟨(some 5), .load (some 7) (.t 2), none⟩,
    ⟨(some 6), .mov (.t 1), none⟩,
    ⟨(some 7), .call 79 [(.t 5), (.t 6)], none⟩,
    ⟨(some 8), .bin .gtr .no (.t 7) (.k (.c (.int .i64 0))), none⟩,
    ⟨(some 4), .mov (.t 8), none⟩])
  (.ret))
def fun60 : SFun := ⟨code60, 9, [.tmp 4]⟩

/- 61 bowline/amd.head params #[34, 3] results #[29] -/
def ann61 : Ann := ⟨[2], [(1, [0, 4]), (2, [6]), (3, [7, 8]), (4, [9, 10, 11, 12, 13]), (5, [14, 15, 16, 17, 18]), (6, [19, 20, 21, 22, 23]), (7, [24, 25, 26, 27, 28, 29, 30]), (8, [31, 32]), (9, [33, 34, 35, 36, 37]), (10, [31, 32, 38, 39]), (11, [40, 41, 42, 43, 44, 45]), (12, [46, 47, 48, 49, 50, 51]), (13, [46, 47, 48, 49, 50, 51, 52, 53, 54, 55, 56]), (14, [57, 58]), (15, [1, 2, 57, 58, 59, 60, 61, 62, 63, 64, 65])]⟩
def code61 : SCode :=
  .seq (.region [] [⟨(some 2), .lbox 7 (.t 0), none⟩,
    ⟨(some 4), .mov (.k (.c (.slice none 0 0))), none⟩])
  (.seq (.region [0, 4] [⟨(some 6), .call 54 [], none⟩,
    ⟨(some 5), .mov (.t 6), none⟩])
  (.seq (.region [6] [⟨(some 7), .mov (.t 5), none⟩,
    ⟨(some 8), .call 55 [(.t 7), (.k (.c (.int .u64 1))), (.k (.c (.int .i64 1)))], none⟩])
  (.seq (.region [7, 8] [⟨(some 9), .mov (.t 5), none⟩,
    ⟨(some 10), .faddr 3 (.t 2), none⟩,
    ⟨(some 11), .load none (.t 10), none⟩,
    ⟨(some 12), .call 80 [(.t 11)], none⟩,
    ⟨(some 13), .call 55 [(.t 9), (.t 12), (.k (.c (.int .i64 1)))], none⟩])
  (.seq (.region [9, 10, 11, 12, 13] [⟨(some 14), .mov (.t 5), none⟩,
    ⟨(some 15), .faddr 0 (.t 2), none⟩,
    ⟨(some 16), .load none (.t 15), none⟩,
    ⟨(some 17), .call 80 [(.t 16)], none⟩,
    ⟨(some 18), .call 55 [(.t 14), (.t 17), (.k (.c (.int .i64 1)))], none⟩])
  (.seq (.region [14, 15, 16, 17, 18] [⟨(some 19), .mov (.t 5), none⟩,
    ⟨(some 20), .faddr 1 (.t 2), none⟩,
    ⟨(some 21), .load none (.t 20), none⟩,
    ⟨(some 22), .conv (.int .u64) (.t 21), none⟩,
    ⟨(some 23), .call 55 [(.t 19), (.t 22), (.k (.c (.int .i64 2)))], none⟩])
  (.seq (.region [19, 20, 21, 22, 23] [⟨(some 24), .mov (.t 5), none⟩,
    ⟨(some 25), .faddr 6 (.t 2), none⟩,
    ⟨(some 26), .load none (.t 25), none⟩,
    ⟨(some 27), .len .sl (.t 26), none⟩,
    ⟨(some 28), .bin .gtr .no (.t 27) (.k (.c (.int .i64 1))), none⟩,
    ⟨(some 29), .call 80 [(.t 28)], none⟩,
    ⟨(some 30), .call 55 [(.t 24), (.t 29), (.k (.c (.int .i64 1)))], none⟩])
  (.seq (.seq (.region [24, 25, 26, 27, 28, 29, 30] [⟨(some 31), .mov (.t 1), none⟩,
    ⟨(some 32), .bin .eql .no (.t 31) (.k (.c (.int .i64 16))), none⟩])
  (.cond (.t 32)
    (.seq (.region [31, 32] [⟨(some 33), .mov (.t 5), none⟩,
      ⟨(some 34), .faddr 4 (.t 2), none⟩,
      ⟨(some 35), .load none (.t 34), none⟩,
      ⟨(some 36), .call 80 [(.t 35)], none⟩,
      ⟨(some 37), .call 55 [(.t 33), (.t 36), (.k (.c (.int .i64 1)))], none⟩])
    (.region [33, 34, 35, 36, 37] [⟨(some 38), .mov (.t 5), none⟩,
      ⟨(some 39), .call 55 [(.t 38), (.k (.c (.int .u64 0))), (.k (.c (.int .i64 1)))], none⟩]))
    (.skip)))
  (.seq (.region [31, 32, 38, 39] [⟨(some 40), .mov (.t 5), none⟩,
    ⟨(some 41), .faddr 2 (.t 2), none⟩,
    ⟨(some 42), .load none (.t 41), none⟩,
    ⟨(some 43), .conv (.int .u64) (.t 42), none⟩,
    ⟨(some 44), .mov (.t 1), none⟩,
    ⟨(some 45), .call 55 [(.t 40), (.t 43), (.t 44)], none⟩])
  (.seq (.seq (.region [40, 41, 42, 43, 44, 45] [⟨(some 46), .faddr 3 (.t 2), none⟩,
    ⟨(some 47), .load none (.t 46), none⟩,
    ⟨(some 48), .mov (.t 47), none⟩,
    ⟨(some 49), .mov (.t 1), some (48, true)⟩,
    ⟨(some 50), .bin .eql .no (.t 49) (.k (.c (.int .i64 10))), some (48, true)⟩,
    ⟨(some 51), .pick (.t 48) (.t 50) (.k (.c (.bool false))), none⟩])
  (.cond (.t 51)
    (.region [46, 47, 48, 49, 50, 51] [⟨(some 52), .mov (.t 5), none⟩,
      ⟨(some 53), .faddr 4 (.t 2), none⟩,
      ⟨(some 54), .load none (.t 53), none⟩,
      ⟨(some 55), .call 80 [(.t 54)], none⟩,
      ⟨(some 56), .call 55 [(.t 52), (.t 55), (.k (.c (.int .i64 1)))], none⟩])
    (.skip)))
  (.seq (.seq (.region [46, 47, 48, 49, 50, 51, 52, 53, 54, 55, 56] [⟨(some 57), .faddr 3 (.t 2), none⟩,
    ⟨(some 58), .load none (.t 57), none⟩])
  (.cond (.t 58)
    (.drawn [57, 58] [⟨0, ⟨(some 59), .mov (.t 5), none⟩, []⟩,
      ⟨1, ⟨(some 60), .faddr 5 (.t 2), none⟩, []⟩,
      ⟨2, ⟨(some 61), .load none (.t 60), none⟩, []⟩,
      ⟨3, ⟨(some 62), .conv (.int .u64) (.t 61), none⟩, []⟩,
      ⟨4, ⟨(some 63), .mov (.t 1), none⟩, []⟩,
      ⟨5, ⟨(some 64), .call 73 [(.t 63)], none⟩, [2]⟩,
      ⟨6, ⟨(some 65), .call 55 [(.t 59), (.t 62), (.t 64)], none⟩, []⟩])
    (.skip)))
  (.seq (.region [1, 2, 57, 58, 59, 60, 61, 62, 63, 64, 65] [⟨(some 66), .mov (.t 5), none⟩,
    ⟨(some 67), .call 56 [(.t 66)], none⟩,
    ⟨(some 4), .mov (.t 67), none⟩])
  (.ret))))))))))))
def fun61 : SFun := ⟨code61, 68, [.tmp 4]⟩

/- 62 bowline/amd.Data params #[34] results #[29] -/
def ann62 : Ann := ⟨[1], [(1, [0, 2])]⟩
def code62 : SCode :=
  .seq (.region [] [⟨(some 1), .lbox 7 (.t 0), none⟩,
    ⟨(some 2), .mov (.k (.c (.slice none 0 0))), none⟩])
  (.seq (.region [0, 2] [⟨(some 3), .faddr 6 (.t 1), none⟩,
    ⟨(some 4), .load none (.t 3), none⟩,
    ⟨(some 5), .call 59 [(.t 4), (.k (.c (.slice none 0 0)))], none⟩,
    ⟨(some 2), .mov (.t 5), none⟩])
  (.ret))
def fun62 : SFun := ⟨code62, 6, [.tmp 2]⟩

/- 63 bowline/status.Right params #[37, 3] results #[4] -/
def ann63 : Ann := ⟨[2, 5], [(1, [0, 1, 4]), (2, [6, 7])]⟩
def code63 : SCode :=
  .seq (.region [] [⟨(some 2), .lbox 2 (.t 0), none⟩,
    ⟨(some 3), .box 1 (.t 1), none⟩,
    ⟨(some 4), .mov (.k (.c (.bool false))), none⟩])
  (.seq (.region [0, 1, 4] [⟨(some 6), .load none (.t 3), none⟩,
    ⟨(some 7), .build [(.c (.int .i64 0))] [(0, 1, (.t 6))], none⟩,
    ⟨(some 5), .lnew [(.c (.int .i64 0))], none⟩,
    ⟨none, .store (some 1) (.t 5) (.t 7), none⟩])
  (.seq (.region [6, 7] [⟨(some 8), .load none (.t 3), none⟩,
    ⟨(some 9), .call 43 [(.t 8)], none⟩,
    ⟨(some 10), .mov (.t 9), none⟩,
    ⟨(some 11), .load (some 1) (.t 5), some (10, true)⟩,
    ⟨(some 12), .faddr 0 (.t 2), some (10, true)⟩,
    ⟨(some 13), .load none (.t 12), some (10, true)⟩,
    ⟨(some 14), .call 71 [(.t 11), (.t 13)], some (10, true)⟩,
    ⟨(some 15), .pick (.t 10) (.t 14) (.k (.c (.bool false))), none⟩,
    ⟨(some 16), .mov (.t 15), none⟩,
    ⟨(some 17), .faddr 1 (.t 2), some (16, true)⟩,
    ⟨(some 18), .load none (.t 17), some (16, true)⟩,
    ⟨(some 19), .len .sl (.t 18), some (16, true)⟩,
    ⟨(some 20), .bin .leq .no (.t 19) (.k (.c (.int .i64 32))), some (16, true)⟩,
    ⟨(some 21), .pick (.t 16) (.t 20) (.k (.c (.bool false))), none⟩,
    ⟨(some 22), .mov (.t 21), none⟩,
    ⟨(some 23), .faddr 1 (.t 2), some (22, true)⟩,
    ⟨(some 24), .load none (.t 23), some (22, true)⟩,
    ⟨(some 25), .mkfn 82 [(.t 3)], some (22, true)⟩,
    ⟨(some 26), .call 81 [(.t 24), (.t 25)], some (22, true)⟩,
    ⟨(some 27), .un .not (.t 26), some (22, true)⟩,
    ⟨(some 28), .pick (.t 22) (.t 27) (.k (.c (.bool false))), none⟩,
    ⟨(some 4), .mov (.t 28), none⟩])
  (.ret)))
def fun63 : SFun := ⟨code63, 29, [.tmp 4]⟩

/- 64 bowline/status.bit params #[4] results #[84] -/
def ann64 : Ann := ⟨[], [(1, [2]), (2, [0, 3]), (3, [0, 3])]⟩
def code64 : SCode :=
  .seq (.region [] [⟨(some 2), .mov (.k (.c (.int .u64 0))), none⟩])
  (.seq (.seq (.region [2] [⟨(some 3), .mov (.t 0), none⟩])
  (.cond (.t 3)
    (.seq (.region [0, 3] [⟨(some 2), .mov (.k (.c (.int .u64 1))), none⟩])
    (.ret))
    (.skip)))
  (.seq (.region [0, 3] [⟨(some 2), .mov (.k (.c (.int .u64 0))), none⟩])
  (.ret)))
def fun64 : SFun := ⟨code64, 4, [.tmp 2]⟩

/- 65 bowline/status.offsetWidth params #[3] results #[3] -/
def ann65 : Ann := ⟨[], [(1, [2]), (2, [0, 3, 4]), (3, [0, 3, 4])]⟩
def code65 : SCode :=
  .seq (.region [] [⟨(some 2), .mov (.k (.c (.int .i64 0))), none⟩])
  (.seq (.seq (.region [2] [⟨(some 3), .mov (.t 0), none⟩,
    ⟨(some 4), .bin .eql .no (.t 3) (.k (.c (.int .i64 10))), none⟩])
  (.cond (.t 4)
    (.seq (.region [0, 3, 4] [⟨(some 2), .mov (.k (.c (.int .i64 15))), none⟩])
    (.ret))
    (.skip)))
  (.seq (.region [0, 3, 4] [⟨(some 2), .mov (.k (.c (.int .i64 16))), none⟩])
  (.ret)))
def fun65 : SFun := ⟨code65, 5, [.tmp 2]⟩

/- 66 bowline/bowlineref09.SameFields params #[30, 30] results #[4] -/
def ann66 : Ann := ⟨[], [(1, [4]), (2, [0, 1, 6, 7, 8, 9, 10]), (3, [6, 7, 8, 9, 10]), (4, [15, 16]), (6, [11, 12, 13, 14]), (7, [0, 1, 5, 17, 18, 19, 20, 21, 22, 23, 24, 25, 26, 27]), (5, [17, 18, 19, 20, 21, 22, 23, 24, 25, 26, 27]), (8, [0, 1, 5, 11, 12, 13, 14])]⟩
def lp66_0 : SCode :=
  .seq (.seq (.region [15, 16] [⟨(some 11), .mov (.t 5), none⟩,
    ⟨(some 12), .mov (.t 0), none⟩,
    ⟨(some 13), .len .sl (.t 12), none⟩,
    ⟨(some 14), .bin .lss .no (.t 11) (.t 13), none⟩])
  (.cond (.t 14)
    (.skip)
    (.exit 0)))
  (.seq (.block 1 (.seq (.drawn [11, 12, 13, 14] [⟨0, ⟨(some 17), .mov (.t 0), none⟩, []⟩,
      ⟨1, ⟨(some 18), .mov (.t 5), none⟩, []⟩,
      ⟨2, ⟨(some 19), .iaddr 1 none (.t 17) (.t 18), none⟩, []⟩,
      ⟨3, ⟨(some 20), .load none (.t 19), none⟩, []⟩,
      ⟨4, ⟨(some 21), .conv .toStr (.t 20), none⟩, []⟩,
      ⟨5, ⟨(some 22), .mov (.t 1), none⟩, []⟩,
      ⟨6, ⟨(some 23), .mov (.t 5), none⟩, []⟩,
      ⟨7, ⟨(some 24), .iaddr 1 none (.t 22) (.t 23), none⟩, []⟩,
      ⟨8, ⟨(some 25), .load none (.t 24), none⟩, []⟩,
      ⟨9, ⟨(some 26), .conv .toStr (.t 25), none⟩, []⟩,
      ⟨10, ⟨(some 27), .bin .neq .no (.t 21) (.t 26), none⟩, []⟩])
    (.cond (.t 27)
      (.seq (.region [0, 1, 5, 17, 18, 19, 20, 21, 22, 23, 24, 25, 26, 27] [⟨(some 4), .mov (.k (.c (.bool false))), none⟩])
      (.ret))
      (.skip))))
  (.region [17, 18, 19, 20, 21, 22, 23, 24, 25, 26, 27] [⟨(some 15), .mov (.t 5), none⟩,
    ⟨(some 16), .bin .add .no (.t 15) (.k (.c (.int .i64 1))), none⟩,
    ⟨(some 5), .mov (.t 16), none⟩]))
def code66 : SCode :=
  .seq (.region [] [⟨(some 4), .mov (.k (.c (.bool false))), none⟩])
  (.seq (.seq (.region [4] [⟨(some 6), .mov (.t 0), none⟩,
    ⟨(some 7), .len .sl (.t 6), none⟩,
    ⟨(some 8), .mov (.t 1), none⟩,
    ⟨(some 9), .len .sl (.t 8), none⟩,
    ⟨(some 10), .bin .neq .no (.t 7) (.t 9), none⟩])
  (.cond (.t 10)
    (.seq (.region [0, 1, 6, 7, 8, 9, 10] [⟨(some 4), .mov (.k (.c (.bool false))), none⟩])
    (.ret))
    (.skip)))
  (.seq (.seq (.region [6, 7, 8, 9, 10] [⟨(some 5), .mov (.k (.c (.int .i64 0))), none⟩])
  (.block 0 (.loop lp66_0)))
  (.seq (.region [0, 1, 5, 11, 12, 13, 14] [⟨(some 4), .mov (.k (.c (.bool true))), none⟩])
  (.ret))))
def fun66 : SFun := ⟨code66, 28, [.tmp 4]⟩

/- 67 slices.IndexFunc[[][3]int,[3]int] params #[78, 80] results #[3] -/
def ann67 : Ann := ⟨[], [(1, [4]), (2, [6, 18]), (3, [9]), (4, [10]), (5, [0, 1, 7, 8, 11, 12, 13, 14, 15, 16]), (6, [5, 11, 12, 13, 14, 15, 16]), (7, [0, 1, 7, 8, 9])]⟩
def lp67_0 : SCode :=
  .seq (.region [6, 18] [⟨(some 9), .bin .lss .no (.t 8) (.t 7), none⟩])
  (.seq (.cond (.t 9)
    (.skip)
    (.exit 0))
  (.seq (.block 1 (.seq (.region [9] [⟨(some 10), .mov (.t 8), none⟩,
      ⟨(some 5), .mov (.t 10), none⟩])
    (.seq (.region [10] [⟨(some 11), .mov (.t 1), none⟩,
      ⟨(some 12), .mov (.t 0), none⟩,
      ⟨(some 13), .mov (.t 5), none⟩,
      ⟨(some 14), .iaddr 3 none (.t 12) (.t 13), none⟩,
      ⟨(some 15), .load (some 3) (.t 14), none⟩,
      ⟨(some 16), .callv (.t 11) [(.t 15)], none⟩])
    (.cond (.t 16)
      (.seq (.region [0, 1, 7, 8, 11, 12, 13, 14, 15, 16] [⟨(some 17), .mov (.t 5), none⟩,
        ⟨(some 4), .mov (.t 17), none⟩])
      (.ret))
      (.skip)))))
  (.region [5, 11, 12, 13, 14, 15, 16] [⟨(some 18), .bin .add .no (.t 8) (.k (.c (.int .i64 1))), none⟩,
    ⟨(some 8), .mov (.t 18), none⟩])))
def code67 : SCode :=
  .seq (.region [] [⟨(some 4), .mov (.k (.c (.int .i64 0))), none⟩])
  (.seq (.seq (.region [4] [⟨(some 6), .mov (.t 0), none⟩,
    ⟨(some 7), .len .sl (.t 6), none⟩,
    ⟨(some 8), .mov (.k (.c (.int .i64 0))), none⟩])
  (.block 0 (.loop lp67_0)))
  (.seq (.region [0, 1, 7, 8, 9] [⟨(some 4), .mov (.k (.c (.int .i64 (-1)))), none⟩])
  (.ret)))
def fun67 : SFun := ⟨code67, 19, [.tmp 4]⟩

/- 68 (*bowline/bits.Reader).Left params #[82] results #[3] -/
def ann68 : Ann := ⟨[], [(1, [2]), (2, [0, 3, 4]), (3, [3, 4])]⟩
def code68 : SCode :=
  .seq (.region [] [⟨(some 2), .mov (.k (.c (.int .i64 0))), none⟩])
  (.seq (.seq (.region [2] [⟨(some 3), .mov (.t 0), none⟩,
    ⟨(some 4), .bin .eql .ptr (.t 3) (.k (.c (.pointer none))), none⟩])
  (.cond (.t 4)
    (.seq (.region [0, 3, 4] [⟨(some 2), .mov (.k (.c (.int .i64 0))), none⟩])
    (.ret))
    (.skip)))
  (.seq (.drawn [3, 4] [⟨0, ⟨(some 5), .mov (.t 0), none⟩, []⟩,
    ⟨1, ⟨(some 6), .chk (.t 5), none⟩, []⟩,
    ⟨2, ⟨(some 7), .faddr 0 (.t 6), none⟩, []⟩,
    ⟨3, ⟨(some 8), .load none (.t 7), none⟩, []⟩,
    ⟨4, ⟨(some 9), .len .sl (.t 8), none⟩, []⟩,
    ⟨5, ⟨(some 10), .bin .mul .no (.t 9) (.k (.c (.int .i64 8))), none⟩, []⟩,
    ⟨6, ⟨(some 11), .mov (.t 0), none⟩, []⟩,
    ⟨7, ⟨(some 12), .chk (.t 11), none⟩, []⟩,
    ⟨8, ⟨(some 13), .faddr 1 (.t 12), none⟩, []⟩,
    ⟨9, ⟨(some 14), .load none (.t 13), none⟩, []⟩,
    ⟨10, ⟨(some 15), .bin .sub .no (.t 10) (.t 14), none⟩, []⟩,
    ⟨11, ⟨(some 2), .mov (.t 15), none⟩, []⟩])
  (.ret)))
def fun68 : SFun := ⟨code68, 16, [.tmp 2]⟩

/- 69 bowline/lens.isWidth params #[3] results #[4] -/
def ann69 : Ann := ⟨[], [(1, [2])]⟩
def code69 : SCode :=
  .seq (.region [] [⟨(some 2), .mov (.k (.c (.bool false))), none⟩])
  (.seq (.region [2] [⟨(some 3), .mov (.t 0), none⟩,
    ⟨(some 4), .bin .eql .no (.t 3) (.k (.c (.int .i64 11))), none⟩,
    ⟨(some 5), .mov (.t 4), none⟩,
    ⟨(some 6), .mov (.t 0), some (5, false)⟩,
    ⟨(some 7), .bin .eql .no (.t 6) (.k (.c (.int .i64 15))), some (5, false)⟩,
    ⟨(some 8), .pick (.t 5) (.k (.c (.bool true))) (.t 7), none⟩,
    ⟨(some 2), .mov (.t 8), none⟩])
  (.ret))
def fun69 : SFun := ⟨code69, 9, [.tmp 2]⟩

/- 70 bowline/lens.Size params #[3, 3] results #[3] -/
def ann70 : Ann := ⟨[], [(1, [4]), (2, [0, 1, 5, 6, 7, 8, 9, 10, 11, 12, 13, 14, 15]), (3, [5, 6, 7, 8, 9, 10, 11, 12, 13, 14, 15])]⟩
def code70 : SCode :=
  .seq (.region [] [⟨(some 4), .mov (.k (.c (.int .i64 0))), none⟩])
  (.seq (.seq (.region [4] [⟨(some 5), .mov (.t 1), none⟩,
    ⟨(some 6), .call 69 [(.t 5)], none⟩,
    ⟨(some 7), .un .not (.t 6), none⟩,
    ⟨(some 8), .mov (.t 7), none⟩,
    ⟨(some 9), .mov (.t 0), some (8, false)⟩,
    ⟨(some 10), .bin .lss .no (.t 9) (.k (.c (.int .i64 1))), some (8, false)⟩,
    ⟨(some 11), .pick (.t 8) (.k (.c (.bool true))) (.t 10), none⟩,
    ⟨(some 12), .mov (.t 11), none⟩,
    ⟨(some 13), .mov (.t 0), some (12, false)⟩,
    ⟨(some 14), .bin .gtr .no (.t 13) (.k (.c (.int .i64 23))), some (12, false)⟩,
    ⟨(some 15), .pick (.t 12) (.k (.c (.bool true))) (.t 14), none⟩])
  (.cond (.t 15)
    (.seq (.region [0, 1, 5, 6, 7, 8, 9, 10, 11, 12, 13, 14, 15] [⟨(some 4), .mov (.k (.c (.int .i64 0))), none⟩])
    (.ret))
    (.skip)))
  (.seq (.region [5, 6, 7, 8, 9, 10, 11, 12, 13, 14, 15] [⟨(some 16), .mov (.t 0), none⟩,
    ⟨(some 17), .mov (.t 1), none⟩,
    ⟨(some 18), .bin .add .no (.t 17) (.k (.c (.int .i64 1))), none⟩,
    ⟨(some 19), .bin .mul .no (.t 16) (.t 18), none⟩,
    ⟨(some 20), .bin .add .no (.t 19) (.k (.c (.int .i64 8))), none⟩,
    ⟨(some 21), .bin .sub .no (.t 20) (.k (.c (.int .i64 1))), none⟩,
    ⟨(some 22), .bin .quo .no (.t 21) (.k (.c (.int .i64 8))), none⟩,
    ⟨(some 4), .mov (.t 22), none⟩])
  (.ret)))
def fun70 : SFun := ⟨code70, 23, [.tmp 4]⟩

/- 71 (bowline/seqnum.Space).Is params #[126, 3] results #[4] -/
def ann71 : Ann := ⟨[2], [(1, [0, 4])]⟩
def code71 : SCode :=
  .seq (.region [] [⟨(some 2), .lbox 1 (.t 0), none⟩,
    ⟨(some 4), .mov (.k (.c (.bool false))), none⟩])
  (.seq (.region [0, 4] [⟨(some 5), .mov (.t 1), none⟩,
    ⟨(some 6), .bin .geq .no (.t 5) (.k (.c (.int .i64 0))), none⟩,
    ⟨(some 7), .mov (.t 6), none⟩,
    ⟨(some 8), .mov (.t 1), some (7, true)⟩,
    ⟨(some 9), .load (some 1) (.t 2), some (7, true)⟩,
    ⟨(some 10), .call 83 [(.t 9)], some (7, true)⟩,
    ⟨(some 11), .bin .lss .no (.t 8) (.t 10), some (7, true)⟩,
    ⟨(some 12), .pick (.t 7) (.t 11) (.k (.c (.bool false))), none⟩,
    ⟨(some 4), .mov (.t 12), none⟩])
  (.ret))
def fun71 : SFun := ⟨code71, 13, [.tmp 4]⟩

/- 72 bowline/amd.readHead$1 params #[3] results #[84] -/
def ann72 : Ann := ⟨[], [(1, [3]), (2, [0, 1, 5, 6, 7, 8, 9, 10, 11])]⟩
def code72 : SCode :=
  .seq (.region [] [⟨(some 3), .mov (.k (.c (.int .u64 0))), none⟩])
  (.seq (.region [3] [⟨(some 7), .load none (.t 1), none⟩,
    ⟨(some 8), .mov (.t 0), none⟩,
    ⟨(some 9), .call 40 [(.t 7), (.t 8)], none⟩,
    ⟨(some 6), .mov (.t 9), none⟩,
    ⟨(some 10), .ext (.t 6) 0, none⟩,
    ⟨(some 11), .ext (.t 6) 1, none⟩,
    ⟨(some 4), .mov (.t 10), none⟩,
    ⟨(some 5), .mov (.t 11), none⟩])
  (.seq (.region [0, 1, 5, 6, 7, 8, 9, 10, 11] [⟨(some 12), .mov (.t 4), none⟩,
    ⟨(some 3), .mov (.t 12), none⟩])
  (.ret)))
def fun72 : SFun := ⟨code72, 13, [.tmp 3]⟩

/- 73 bowline/amd.offsetWidth params #[3] results #[3] -/
def ann73 : Ann := ⟨[], [(1, [2]), (2, [0, 3, 4]), (3, [0, 3, 4])]⟩
def code73 : SCode :=
  .seq (.region [] [⟨(some 2), .mov (.k (.c (.int .i64 0))), none⟩])
  (.seq (.seq (.region [2] [⟨(some 3), .mov (.t 0), none⟩,
    ⟨(some 4), .bin .eql .no (.t 3) (.k (.c (.int .i64 10))), none⟩])
  (.cond (.t 4)
    (.seq (.region [0, 3, 4] [⟨(some 2), .mov (.k (.c (.int .i64 15))), none⟩])
    (.ret))
    (.skip)))
  (.seq (.region [0, 3, 4] [⟨(some 2), .mov (.k (.c (.int .i64 16))), none⟩])
  (.ret)))
def fun73 : SFun := ⟨code73, 5, [.tmp 2]⟩

/- 74 slices.ContainsFunc[[]int,int] params #[87, 81] results #[4] -/
def ann74 : Ann := ⟨[], [(1, [4])]⟩
def code74 : SCode :=
  .seq (.region [] [⟨(some 4), .mov (.k (.c (.bool false))), none⟩])
  (.seq (.region [4] [⟨(some 5), .mov (.t 0), none⟩,
    ⟨(some 6), .mov (.t 1), none⟩,
    ⟨(some 7), .call 84 [(.t 5), (.t 6)], none⟩,
    ⟨(some 8), .bin .geq .no (.t 7) (.k (.c (.int .i64 0))), none⟩,
    ⟨(some 4), .mov (.t 8), none⟩])
  (.ret))
def fun74 : SFun := ⟨code74, 9, [.tmp 4]⟩

/- 75 bowline/amd.fields$1 params #[3] results #[4] -/
def ann75 : Ann := ⟨[], [(1, [2])]⟩
def code75 : SCode :=
  .seq (.region [] [⟨(some 2), .mov (.k (.c (.bool false))), none⟩])
  (.seq (.region [2] [⟨(some 3), .mov (.t 0), none⟩,
    ⟨(some 4), .bin .gtr .no (.t 3) (.k (.c (.int .i64 2047))), none⟩,
    ⟨(some 2), .mov (.t 4), none⟩])
  (.ret))
def fun75 : SFun := ⟨code75, 5, [.tmp 2]⟩

/- 76 bowline/umd.Size params #[32, 3] results #[3] -/
def ann76 : Ann := ⟨[2, 5], [(1, [0, 4]), (2, [6, 7]), (3, [1, 2, 5, 8, 9, 10, 11, 12, 13, 14, 15, 16, 17, 18, 19, 20, 21, 22, 23, 24, 25, 26, 27]), (4, [5, 8, 9, 10, 11, 12, 13, 14, 15, 16, 17, 18, 19, 20, 21, 22, 23, 24, 25, 26, 27])]⟩
def code76 : SCode :=
  .seq (.region [] [⟨(some 2), .lbox 3 (.t 0), none⟩,
    ⟨(some 4), .mov (.k (.c (.int .i64 0))), none⟩])
  (.seq (.region [0, 4] [⟨(some 6), .mov (.t 1), none⟩,
    ⟨(some 7), .build [(.c (.int .i64 0))] [(0, 1, (.t 6))], none⟩,
    ⟨(some 5), .lnew [(.c (.int .i64 0))], none⟩,
    ⟨none, .store (some 1) (.t 5) (.t 7), none⟩])
  (.seq (.seq (.region [6, 7] [⟨(some 8), .mov (.t 1), none⟩,
    ⟨(some 9), .call 37 [(.t 8)], none⟩,
    ⟨(some 10), .un .not (.t 9), none⟩,
    ⟨(some 11), .mov (.t 10), none⟩,
    ⟨(some 12), .faddr 0 (.t 2), some (11, false)⟩,
    ⟨(some 13), .load none (.t 12), some (11, false)⟩,
    ⟨(some 14), .bin .lss .no (.t 13) (.k (.c (.int .i64 0))), some (11, false)⟩,
    ⟨(some 15), .pick (.t 11) (.k (.c (.bool true))) (.t 14), none⟩,
    ⟨(some 16), .mov (.t 15), none⟩,
    ⟨(some 17), .faddr 0 (.t 2), some (16, false)⟩,
    ⟨(some 18), .load none (.t 17), some (16, false)⟩,
    ⟨(some 19), .bin .gtr .no (.t 18) (.k (.c (.int .i64 3))), some (16, false)⟩,
    ⟨(some 20), .pick (.t 16) (.k (.c (.bool true))) (.t 19), none⟩,
    ⟨(some 21), .mov (.t 20), none⟩,
    ⟨(some 22), .load (some 1) (.t 5), some (21, false)⟩,
    ⟨(some 23), .faddr 1 (.t 2), some (21, false)⟩,
    ⟨(some 24), .load none (.t 23), some (21, false)⟩,
    ⟨(some 25), .call 71 [(.t 22), (.t 24)], some (21, false)⟩,
    ⟨(some 26), .un .not (.t 25), some (21, false)⟩,
    ⟨(some 27), .pick (.t 21) (.k (.c (.bool true))) (.t 26), none⟩])
  (.cond (.t 27)
    (.seq (.region [1, 2, 5, 8, 9, 10, 11, 12, 13, 14, 15, 16, 17, 18, 19, 20, 21, 22, 23, 24, 25, 26, 27] [⟨(some 4), .mov (.k (.c (.int .i64 0))), none⟩])
    (.ret))
    (.skip)))
  (.seq (.region [5, 8, 9, 10, 11, 12, 13, 14, 15, 16, 17, 18, 19, 20, 21, 22, 23, 24, 25, 26, 27] [⟨(some 28), .load (some 3) (.t 2), none⟩,
    ⟨(some 29), .mov (.t 1), none⟩,
    ⟨(some 30), .call 85 [(.t 28), (.t 29)], none⟩,
    ⟨(some 4), .mov (.t 30), none⟩])
  (.ret))))
def fun76 : SFun := ⟨code76, 31, [.tmp 4]⟩

/- 77 (*bowline/bits.Writer).one params #[105, 5] results #[] -/
def ann77 : Ann := ⟨[], [(1, [4, 5, 6, 7, 8, 9]), (2, [4, 5, 6, 7, 8, 9, 10, 11, 12, 13, 14, 15, 16, 17, 18]), (3, [1, 19, 20, 21, 22, 23, 24, 25, 26, 27, 28, 29, 30, 31, 32, 33, 34, 35, 36, 37, 38, 39])]⟩
def code77 : SCode :=
  .seq (.seq (.region [] [⟨(some 4), .mov (.t 0), none⟩,
    ⟨(some 5), .chk (.t 4), none⟩,
    ⟨(some 6), .faddr 1 (.t 5), none⟩,
    ⟨(some 7), .load none (.t 6), none⟩,
    ⟨(some 8), .bin .rem .no (.t 7) (.k (.c (.int .i64 8))), none⟩,
    ⟨(some 9), .bin .eql .no (.t 8) (.k (.c (.int .i64 0))), none⟩])
  (.cond (.t 9)
    (.region [4, 5, 6, 7, 8, 9] [⟨(some 10), .mov (.t 0), none⟩,
      ⟨(some 11), .mov (.t 0), none⟩,
      ⟨(some 12), .chk (.t 11), none⟩,
      ⟨(some 13), .faddr 0 (.t 12), none⟩,
      ⟨(some 14), .load none (.t 13), none⟩,
      ⟨(some 15), .bslice 1 1 [(.c (.int .u8 0))] [(0, 1, (.k (.c (.int .u8 0))))], none⟩,
      ⟨(some 16), .append 1 1 (.t 14) (.t 15), none⟩,
      ⟨(some 17), .chk (.t 10), none⟩,
      ⟨(some 18), .faddr 0 (.t 17), none⟩,
      ⟨none, .store none (.t 18) (.t 16), none⟩])
    (.skip)))
  (.seq (.drawn [4, 5, 6, 7, 8, 9, 10, 11, 12, 13, 14, 15, 16, 17, 18] [⟨0, ⟨(some 19), .mov (.t 0), none⟩, []⟩,
    ⟨1, ⟨(some 20), .chk (.t 19), none⟩, []⟩,
    ⟨2, ⟨(some 21), .faddr 0 (.t 20), none⟩, []⟩,
    ⟨3, ⟨(some 22), .load none (.t 21), none⟩, []⟩,
    ⟨4, ⟨(some 23), .mov (.t 0), none⟩, []⟩,
    ⟨5, ⟨(some 24), .chk (.t 23), none⟩, []⟩,
    ⟨6, ⟨(some 25), .faddr 1 (.t 24), none⟩, []⟩,
    ⟨7, ⟨(some 26), .load none (.t 25), none⟩, []⟩,
    ⟨8, ⟨(some 27), .bin .quo .no (.t 26) (.k (.c (.int .i64 8))), none⟩, []⟩,
    ⟨9, ⟨(some 28), .iaddr 1 none (.t 22) (.t 27), none⟩, []⟩,
    ⟨10, ⟨(some 29), .load none (.t 28), none⟩, []⟩,
    ⟨11, ⟨(some 30), .mov (.t 1), none⟩, []⟩,
    ⟨12, ⟨(some 31), .mov (.t 0), none⟩, []⟩,
    ⟨13, ⟨(some 32), .chk (.t 31), none⟩, []⟩,
    ⟨14, ⟨(some 33), .faddr 1 (.t 32), none⟩, []⟩,
    ⟨15, ⟨(some 34), .load none (.t 33), none⟩, []⟩,
    ⟨16, ⟨(some 35), .bin .rem .no (.t 34) (.k (.c (.int .i64 8))), none⟩, []⟩,
    ⟨17, ⟨(some 36), .bin .sub .no (.k (.c (.int .i64 7))) (.t 35), none⟩, []⟩,
    ⟨18, ⟨(some 37), .bin .shl .no (.t 30) (.t 36), none⟩, []⟩,
    ⟨19, ⟨(some 38), .bin .or .no (.t 29) (.t 37), none⟩, []⟩,
    ⟨20, ⟨(some 39), .iaddr 1 none (.t 22) (.t 27), none⟩, []⟩,
    ⟨21, ⟨none, .store none (.t 39) (.t 38), none⟩, []⟩])
  (.region [1, 19, 20, 21, 22, 23, 24, 25, 26, 27, 28, 29, 30, 31, 32, 33, 34, 35, 36, 37, 38, 39] [⟨(some 40), .mov (.t 0), none⟩,
    ⟨(some 41), .chk (.t 40), none⟩,
    ⟨(some 42), .faddr 1 (.t 41), none⟩,
    ⟨(some 43), .load none (.t 42), none⟩,
    ⟨(some 44), .bin .add .no (.t 43) (.k (.c (.int .i64 1))), none⟩,
    ⟨(some 45), .chk (.t 40), none⟩,
    ⟨(some 46), .faddr 1 (.t 45), none⟩,
    ⟨none, .store none (.t 46) (.t 44), none⟩]))
def fun77 : SFun := ⟨code77, 47, []⟩

/- 79 bowline/amd.Size params #[34, 3] results #[3] -/
def ann79 : Ann := ⟨[2, 5], [(1, [0, 4]), (2, [9, 10]), (3, [1, 2, 5, 11, 12, 13, 14, 15, 16, 17, 18, 19, 20, 21, 22, 23, 24, 25, 26, 27, 28, 29, 30, 31]), (4, [5, 11, 12, 13, 14, 15, 16, 17, 18, 19, 20, 21, 22, 23, 24, 25, 26, 27, 28, 29, 30, 31]), (5, [1, 2, 32, 33, 34, 35, 36, 37, 38, 39, 40, 41, 42, 43, 44, 45, 46, 47, 48, 49, 50, 51, 52, 53, 54, 55, 56, 57]), (6, [32, 33, 34, 35, 36, 37, 38, 39, 40, 41, 42, 43, 44, 45, 46, 47, 48, 49, 50, 51, 52, 53, 54, 55, 56, 57]), (7, [1, 2, 58, 59, 60, 61, 62, 63, 64, 65, 66, 67, 68]), (8, [58, 59, 60, 61, 62, 63, 64, 65, 66, 67, 68]), (9, [1, 69, 70, 71, 72, 73, 74, 75, 76, 77, 78, 79, 80]), (10, [81, 116]), (11, [85]), (12, [86, 87, 88]), (13, [2, 6, 7, 8, 82, 83, 84, 89, 90, 91, 92, 93, 94, 95, 96, 97, 98, 99, 100, 101, 102, 103, 104, 105, 106, 107, 108, 109, 110, 111]), (14, [7, 89, 90, 91, 92, 93, 94, 95, 96, 97, 98, 99, 100, 101, 102, 103, 104, 105, 106, 107, 108, 109, 110, 111]), (15, [8, 112, 113, 114, 115]), (16, [2, 82, 83, 84, 85])]⟩
def lp79_0 : SCode :=
  .seq (.region [81, 116] [⟨(some 85), .bin .lss .no (.t 84) (.t 83), none⟩])
  (.seq (.cond (.t 85)
    (.skip)
    (.exit 1))
  (.seq (.block 2 (.seq (.region [85] [⟨(some 86), .mov (.t 84), none⟩,
      ⟨(some 87), .iaddr 1 none (.t 82) (.t 84), none⟩,
      ⟨(some 88), .load none (.t 87), none⟩,
      ⟨(some 7), .mov (.t 86), none⟩,
      ⟨(some 8), .mov (.t 88), none⟩])
    (.seq (.seq (.region [86, 87, 88] [⟨(some 89), .mov (.t 8), none⟩,
      ⟨(some 90), .len .sl (.t 89), none⟩,
      ⟨(some 91), .bin .eql .no (.t 90) (.k (.c (.int .i64 0))), none⟩,
      ⟨(some 92), .mov (.t 91), none⟩,
      ⟨(some 93), .mov (.t 8), some (92, false)⟩,
      ⟨(some 94), .len .sl (.t 93), some (92, false)⟩,
      ⟨(some 95), .bin .gtr .no (.t 94) (.k (.c (.int .i64 2047))), some (92, false)⟩,
      ⟨(some 96), .mov (.t 95), some (92, false)⟩,
      ⟨(some 97), .mov (.t 7), some (96, true)⟩,
      ⟨(some 98), .faddr 6 (.t 2), some (96, true)⟩,
      ⟨(some 99), .load none (.t 98), some (96, true)⟩,
      ⟨(some 100), .len .sl (.t 99), some (96, true)⟩,
      ⟨(some 101), .bin .sub .no (.t 100) (.k (.c (.int .i64 1))), some (96, true)⟩,
      ⟨(some 102), .bin .lss .no (.t 97) (.t 101), some (96, true)⟩,
      ⟨(some 103), .pick (.t 96) (.t 102) (.k (.c (.bool false))), some (92, false)⟩,
      ⟨(some 104), .pick (.t 92) (.k (.c (.bool true))) (.t 103), none⟩,
      ⟨(some 105), .mov (.t 104), none⟩,
      ⟨(some 106), .mov (.t 8), some (105, false)⟩,
      ⟨(some 107), .len .sl (.t 106), some (105, false)⟩,
      ⟨(some 108), .mov (.t 6), some (105, false)⟩,
      ⟨(some 109), .bin .sub .no (.k (.c (.int .i64 4000))) (.t 108), some (105, false)⟩,
      ⟨(some 110), .bin .gtr .no (.t 107) (.t 109), some (105, false)⟩,
      ⟨(some 111), .pick (.t 105) (.k (.c (.bool true))) (.t 110), none⟩])
    (.cond (.t 111)
      (.seq (.region [2, 6, 7, 8, 82, 83, 84, 89, 90, 91, 92, 93, 94, 95, 96, 97, 98, 99, 100, 101, 102, 103, 104, 105, 106, 107, 108, 109, 110, 111] [⟨(some 4), .mov (.k (.c (.int .i64 0))), none⟩])
      (.ret))
      (.skip)))
    (.region [7, 89, 90, 91, 92, 93, 94, 95, 96, 97, 98, 99, 100, 101, 102, 103, 104, 105, 106, 107, 108, 109, 110, 111] [⟨(some 112), .mov (.t 6), none⟩,
      ⟨(some 113), .mov (.t 8), none⟩,
      ⟨(some 114), .len .sl (.t 113), none⟩,
      ⟨(some 115), .bin .add .no (.t 112) (.t 114), none⟩,
      ⟨(some 6), .mov (.t 115), none⟩]))))
  (.region [8, 112, 113, 114, 115] [⟨(some 116), .bin .add .no (.t 84) (.k (.c (.int .i64 1))), none⟩,
    ⟨(some 84), .mov (.t 116), none⟩])))
def code79 : SCode :=
  .seq (.region [] [⟨(some 2), .lbox 7 (.t 0), none⟩,
    ⟨(some 4), .mov (.k (.c (.int .i64 0))), none⟩])
  (.seq (.region [0, 4] [⟨(some 9), .mov (.t 1), none⟩,
    ⟨(some 10), .build [(.c (.int .i64 0))] [(0, 1, (.t 9))], none⟩,
    ⟨(some 5), .lnew [(.c (.int .i64 0))], none⟩,
    ⟨none, .store (some 1) (.t 5) (.t 10), none⟩])
  (.seq (.block 0 (.seq (.region [9, 10] [⟨(some 12), .mov (.t 1), none⟩,
      ⟨(some 13), .call 48 [(.t 12)], none⟩,
      ⟨(some 14), .un .not (.t 13), none⟩,
      ⟨(some 15), .mov (.t 14), none⟩,
      ⟨(some 16), .faddr 1 (.t 2), some (15, false)⟩,
      ⟨(some 17), .load none (.t 16), some (15, false)⟩,
      ⟨(some 18), .bin .lss .no (.t 17) (.k (.c (.int .i64 0))), some (15, false)⟩,
      ⟨(some 19), .pick (.t 15) (.k (.c (.bool true))) (.t 18), none⟩,
      ⟨(some 20), .mov (.t 19), none⟩,
      ⟨(some 21), .faddr 1 (.t 2), some (20, false)⟩,
      ⟨(some 22), .load none (.t 21), some (20, false)⟩,
      ⟨(some 23), .bin .gtr .no (.t 22) (.k (.c (.int .i64 3))), some (20, false)⟩,
      ⟨(some 24), .pick (.t 20) (.k (.c (.bool true))) (.t 23), none⟩,
      ⟨(some 25), .mov (.t 24), none⟩,
      ⟨(some 26), .load (some 1) (.t 5), some (25, false)⟩,
      ⟨(some 27), .faddr 2 (.t 2), some (25, false)⟩,
      ⟨(some 28), .load none (.t 27), some (25, false)⟩,
      ⟨(some 29), .call 71 [(.t 26), (.t 28)], some (25, false)⟩,
      ⟨(some 30), .un .not (.t 29), some (25, false)⟩,
      ⟨(some 31), .pick (.t 25) (.k (.c (.bool true))) (.t 30), none⟩,
      ⟨(some 11), .mov (.t 31), none⟩])
    (.cond (.t 11)
      (.seq (.region [1, 2, 5, 11, 12, 13, 14, 15, 16, 17, 18, 19, 20, 21, 22, 23, 24, 25, 26, 27, 28, 29, 30, 31] [⟨(some 4), .mov (.k (.c (.int .i64 0))), none⟩])
      (.ret))
      (.seq (.drawn [5, 11, 12, 13, 14, 15, 16, 17, 18, 19, 20, 21, 22, 23, 24, 25, 26, 27, 28, 29, 30, 31] [⟨0, ⟨(some 33), .faddr 3 (.t 2), none⟩, []⟩,
        ⟨1, ⟨(some 34), .load none (.t 33), none⟩, []⟩,
        ⟨2, ⟨(some 35), .un .not (.t 34), none⟩, []⟩,
        ⟨3, ⟨(some 36), .mov (.t 35), none⟩, []⟩,
        ⟨4, ⟨(some 37), .faddr 4 (.t 2), some (36, true)⟩, []⟩,
        ⟨5, ⟨(some 38), .load none (.t 37), some (36, true)⟩, []⟩,
        ⟨6, ⟨(some 39), .mov (.t 38), some (36, true)⟩, []⟩,
        ⟨7, ⟨(some 40), .faddr 5 (.t 2), some (39, false)⟩, []⟩,
        ⟨8, ⟨(some 41), .load none (.t 40), some (39, false)⟩, []⟩,
        ⟨9, ⟨(some 42), .bin .neq .no (.t 41) (.k (.c (.int .i64 0))), some (39, false)⟩, []⟩,
        ⟨10, ⟨(some 43), .pick (.t 39) (.k (.c (.bool true))) (.t 42), some (36, true)⟩, []⟩,
        ⟨11, ⟨(some 44), .pick (.t 36) (.t 43) (.k (.c (.bool false))), none⟩, []⟩,
        ⟨12, ⟨(some 45), .mov (.t 44), none⟩, []⟩,
        ⟨13, ⟨(some 46), .faddr 5 (.t 2), some (45, false)⟩, []⟩,
        ⟨14, ⟨(some 47), .load none (.t 46), some (45, false)⟩, []⟩,
        ⟨15, ⟨(some 48), .bin .lss .no (.t 47) (.k (.c (.int .i64 0))), some (45, false)⟩, []⟩,
        ⟨16, ⟨(some 49), .pick (.t 45) (.k (.c (.bool true))) (.t 48), none⟩, []⟩,
        ⟨17, ⟨(some 50), .mov (.t 49), none⟩, []⟩,
        ⟨18, ⟨(some 51), .faddr 5 (.t 2), some (50, false)⟩, []⟩,
        ⟨19, ⟨(some 52), .load none (.t 51), some (50, false)⟩, []⟩,
        ⟨20, ⟨(some 53), .mov (.t 1), some (50, false)⟩, []⟩,
        ⟨21, ⟨(some 54), .call 73 [(.t 53)], some (50, false)⟩, [19]⟩,
        ⟨22, ⟨(some 55), .bin .shl .no (.k (.c (.int .i64 1))) (.t 54), some (50, false)⟩, []⟩,
        ⟨23, ⟨(some 56), .bin .geq .no (.t 52) (.t 55), some (50, false)⟩, []⟩,
        ⟨24, ⟨(some 57), .pick (.t 50) (.k (.c (.bool true))) (.t 56), none⟩, []⟩,
        ⟨25, ⟨(some 32), .mov (.t 57), none⟩, []⟩])
      (.cond (.t 32)
        (.seq (.region [1, 2, 32, 33, 34, 35, 36, 37, 38, 39, 40, 41, 42, 43, 44, 45, 46, 47, 48, 49, 50, 51, 52, 53, 54, 55, 56, 57] [⟨(some 4), .mov (.k (.c (.int .i64 0))), none⟩])
        (.ret))
        (.seq (.region [32, 33, 34, 35, 36, 37, 38, 39, 40, 41, 42, 43, 44, 45, 46, 47, 48, 49, 50, 51, 52, 53, 54, 55, 56, 57] [⟨(some 59), .faddr 6 (.t 2), none⟩,
          ⟨(some 60), .load none (.t 59), none⟩,
          ⟨(some 61), .len .sl (.t 60), none⟩,
          ⟨(some 62), .bin .lss .no (.t 61) (.k (.c (.int .i64 1))), none⟩,
          ⟨(some 63), .mov (.t 62), none⟩,
          ⟨(some 64), .faddr 6 (.t 2), some (63, false)⟩,
          ⟨(some 65), .load none (.t 64), some (63, false)⟩,
          ⟨(some 66), .len .sl (.t 65), some (63, false)⟩,
          ⟨(some 67), .bin .gtr .no (.t 66) (.k (.c (.int .i64 24))), some (63, false)⟩,
          ⟨(some 68), .pick (.t 63) (.k (.c (.bool true))) (.t 67), none⟩,
          ⟨(some 58), .mov (.t 68), none⟩])
        (.cond (.t 58)
          (.seq (.region [1, 2, 58, 59, 60, 61, 62, 63, 64, 65, 66, 67, 68] [⟨(some 4), .mov (.k (.c (.int .i64 0))), none⟩])
          (.ret))
          (.skip))))))))
  (.seq (.drawn [58, 59, 60, 61, 62, 63, 64, 65, 66, 67, 68] [⟨0, ⟨(some 69), .faddr 3 (.t 2), none⟩, []⟩,
    ⟨1, ⟨(some 70), .load none (.t 69), none⟩, []⟩,
    ⟨2, ⟨(some 71), .mov (.t 1), none⟩, []⟩,
    ⟨4, ⟨(some 73), .faddr 6 (.t 2), none⟩, []⟩,
    ⟨5, ⟨(some 74), .load none (.t 73), none⟩, []⟩,
    ⟨6, ⟨(some 75), .len .sl (.t 74), none⟩, []⟩,
    ⟨7, ⟨(some 76), .bin .sub .no (.t 75) (.k (.c (.int .i64 1))), none⟩, []⟩,
    ⟨8, ⟨(some 77), .mov (.t 1), none⟩, []⟩,
    ⟨3, ⟨(some 72), .call 49 [(.t 70), (.t 71)], none⟩, [5]⟩,
    ⟨9, ⟨(some 78), .call 51 [(.t 77)], none⟩, [5]⟩,
    ⟨10, ⟨(some 79), .call 70 [(.t 76), (.t 78)], none⟩, []⟩,
    ⟨11, ⟨(some 80), .bin .add .no (.t 72) (.t 79), none⟩, []⟩,
    ⟨12, ⟨(some 6), .mov (.t 80), none⟩, []⟩])
  (.seq (.seq (.region [1, 69, 70, 71, 72, 73, 74, 75, 76, 77, 78, 79, 80] [⟨(some 81), .faddr 6 (.t 2), none⟩,
    ⟨(some 82), .load none (.t 81), none⟩,
    ⟨(some 83), .len .sl (.t 82), none⟩,
    ⟨(some 84), .mov (.k (.c (.int .i64 0))), none⟩])
  (.block 1 (.loop lp79_0)))
  (.seq (.region [2, 82, 83, 84, 85] [⟨(some 117), .mov (.t 6), none⟩,
    ⟨(some 4), .mov (.t 117), none⟩])
  (.ret))))))
def fun79 : SFun := ⟨code79, 118, [.tmp 4]⟩

/- 80 bowline/amd.bit params #[4] results #[84] -/
def ann80 : Ann := ⟨[], [(1, [2]), (2, [0, 3]), (3, [0, 3])]⟩
def code80 : SCode :=
  .seq (.region [] [⟨(some 2), .mov (.k (.c (.int .u64 0))), none⟩])
  (.seq (.seq (.region [2] [⟨(some 3), .mov (.t 0), none⟩])
  (.cond (.t 3)
    (.seq (.region [0, 3] [⟨(some 2), .mov (.k (.c (.int .u64 1))), none⟩])
    (.ret))
    (.skip)))
  (.seq (.region [0, 3] [⟨(some 2), .mov (.k (.c (.int .u64 0))), none⟩])
  (.ret)))
def fun80 : SFun := ⟨code80, 4, [.tmp 2]⟩

/- 81 slices.ContainsFunc[[]bowline/status.Miss,bowline/status.Miss] params #[35, 136] results #[4] -/
def ann81 : Ann := ⟨[], [(1, [4])]⟩
def code81 : SCode :=
  .seq (.region [] [⟨(some 4), .mov (.k (.c (.bool false))), none⟩])
  (.seq (.region [4] [⟨(some 5), .mov (.t 0), none⟩,
    ⟨(some 6), .mov (.t 1), none⟩,
    ⟨(some 7), .call 86 [(.t 5), (.t 6)], none⟩,
    ⟨(some 8), .bin .geq .no (.t 7) (.k (.c (.int .i64 0))), none⟩,
    ⟨(some 4), .mov (.t 8), none⟩])
  (.ret))
def fun81 : SFun := ⟨code81, 9, [.tmp 4]⟩

/- 82 bowline/status.Right$1 params #[96] results #[4] -/
def ann82 : Ann := ⟨[2], [(1, [0, 3])]⟩
def code82 : SCode :=
  .seq (.region [] [⟨(some 2), .lbox 4 (.t 0), none⟩,
    ⟨(some 3), .mov (.k (.c (.bool false))), none⟩])
  (.seq (.region [0, 3] [⟨(some 4), .load (some 4) (.t 2), none⟩,
    ⟨(some 5), .load none (.t 1), none⟩,
    ⟨(some 6), .call 46 [(.t 4), (.t 5)], none⟩,
    ⟨(some 7), .un .not (.t 6), none⟩,
    ⟨(some 3), .mov (.t 7), none⟩])
  (.ret))
def fun82 : SFun := ⟨code82, 8, [.tmp 3]⟩

/- 83 (bowline/seqnum.Space).Size params #[126] results #[3] -/
def ann83 : Ann := ⟨[1], [(1, [0, 2]), (2, [1, 3, 4, 5]), (3, [3, 4, 5])]⟩
def code83 : SCode :=
  .seq (.region [] [⟨(some 1), .lbox 1 (.t 0), none⟩,
    ⟨(some 2), .mov (.k (.c (.int .i64 0))), none⟩])
  (.seq (.seq (.region [0, 2] [⟨(some 3), .load (some 1) (.t 1), none⟩,
    ⟨(some 4), .call 87 [(.t 3)], none⟩,
    ⟨(some 5), .un .not (.t 4), none⟩])
  (.cond (.t 5)
    (.seq (.region [1, 3, 4, 5] [⟨(some 2), .mov (.k (.c (.int .i64 0))), none⟩])
    (.ret))
    (.skip)))
  (.seq (.region [3, 4, 5] [⟨(some 6), .faddr 0 (.t 1), none⟩,
    ⟨(some 7), .load none (.t 6), none⟩,
    ⟨(some 8), .bin .shl .no (.k (.c (.int .i64 1))) (.t 7), none⟩,
    ⟨(some 2), .mov (.t 8), none⟩])
  (.ret)))
def fun83 : SFun := ⟨code83, 9, [.tmp 2]⟩

/- 84 slices.IndexFunc[[]int,int] params #[87, 81] results #[3] -/
def ann84 : Ann := ⟨[], [(1, [4]), (2, [6, 18]), (3, [9]), (4, [10]), (5, [0, 1, 7, 8, 11, 12, 13, 14, 15, 16]), (6, [5, 11, 12, 13, 14, 15, 16]), (7, [0, 1, 7, 8, 9])]⟩
def lp84_0 : SCode :=
  .seq (.region [6, 18] [⟨(some 9), .bin .lss .no (.t 8) (.t 7), none⟩])
  (.seq (.cond (.t 9)
    (.skip)
    (.exit 0))
  (.seq (.block 1 (.seq (.region [9] [⟨(some 10), .mov (.t 8), none⟩,
      ⟨(some 5), .mov (.t 10), none⟩])
    (.seq (.region [10] [⟨(some 11), .mov (.t 1), none⟩,
      ⟨(some 12), .mov (.t 0), none⟩,
      ⟨(some 13), .mov (.t 5), none⟩,
      ⟨(some 14), .iaddr 1 none (.t 12) (.t 13), none⟩,
      ⟨(some 15), .load none (.t 14), none⟩,
      ⟨(some 16), .callv (.t 11) [(.t 15)], none⟩])
    (.cond (.t 16)
      (.seq (.region [0, 1, 7, 8, 11, 12, 13, 14, 15, 16] [⟨(some 17), .mov (.t 5), none⟩,
        ⟨(some 4), .mov (.t 17), none⟩])
      (.ret))
      (.skip)))))
  (.region [5, 11, 12, 13, 14, 15, 16] [⟨(some 18), .bin .add .no (.t 8) (.k (.c (.int .i64 1))), none⟩,
    ⟨(some 8), .mov (.t 18), none⟩])))
def code84 : SCode :=
  .seq (.region [] [⟨(some 4), .mov (.k (.c (.int .i64 0))), none⟩])
  (.seq (.seq (.region [4] [⟨(some 6), .mov (.t 0), none⟩,
    ⟨(some 7), .len .sl (.t 6), none⟩,
    ⟨(some 8), .mov (.k (.c (.int .i64 0))), none⟩])
  (.block 0 (.loop lp84_0)))
  (.seq (.region [0, 1, 7, 8, 9] [⟨(some 4), .mov (.k (.c (.int .i64 (-1)))), none⟩])
  (.ret)))
def fun84 : SFun := ⟨code84, 19, [.tmp 4]⟩

/- 85 bowline/umd.size params #[32, 3] results #[3] -/
def ann85 : Ann := ⟨[2], [(1, [0, 4]), (2, [1, 2, 8, 9, 10, 11, 12, 13, 14, 15, 16, 17]), (3, [8, 9, 10, 11, 12, 13, 14, 15, 16, 17]), (4, [1, 18, 19, 20, 21, 22, 23, 24, 25]), (5, [26, 61]), (6, [30]), (7, [31, 32, 33]), (8, [2, 5, 6, 7, 27, 28, 29, 34, 35, 36, 37, 38, 39, 40, 41, 42, 43, 44, 45, 46, 47, 48, 49, 50, 51, 52, 53, 54, 55, 56]), (9, [6, 34, 35, 36, 37, 38, 39, 40, 41, 42, 43, 44, 45, 46, 47, 48, 49, 50, 51, 52, 53, 54, 55, 56]), (10, [7, 57, 58, 59, 60]), (11, [2, 27, 28, 29, 30])]⟩
def lp85_0 : SCode :=
  .seq (.region [26, 61] [⟨(some 30), .bin .lss .no (.t 29) (.t 28), none⟩])
  (.seq (.cond (.t 30)
    (.skip)
    (.exit 0))
  (.seq (.block 1 (.seq (.region [30] [⟨(some 31), .mov (.t 29), none⟩,
      ⟨(some 32), .iaddr 1 none (.t 27) (.t 29), none⟩,
      ⟨(some 33), .load none (.t 32), none⟩,
      ⟨(some 6), .mov (.t 31), none⟩,
      ⟨(some 7), .mov (.t 33), none⟩])
    (.seq (.seq (.region [31, 32, 33] [⟨(some 34), .mov (.t 7), none⟩,
      ⟨(some 35), .len .sl (.t 34), none⟩,
      ⟨(some 36), .bin .eql .no (.t 35) (.k (.c (.int .i64 0))), none⟩,
      ⟨(some 37), .mov (.t 36), none⟩,
      ⟨(some 38), .mov (.t 7), some (37, false)⟩,
      ⟨(some 39), .len .sl (.t 38), some (37, false)⟩,
      ⟨(some 40), .bin .gtr .no (.t 39) (.k (.c (.int .i64 2047))), some (37, false)⟩,
      ⟨(some 41), .mov (.t 40), some (37, false)⟩,
      ⟨(some 42), .mov (.t 6), some (41, true)⟩,
      ⟨(some 43), .faddr 2 (.t 2), some (41, true)⟩,
      ⟨(some 44), .load none (.t 43), some (41, true)⟩,
      ⟨(some 45), .len .sl (.t 44), some (41, true)⟩,
      ⟨(some 46), .bin .sub .no (.t 45) (.k (.c (.int .i64 1))), some (41, true)⟩,
      ⟨(some 47), .bin .lss .no (.t 42) (.t 46), some (41, true)⟩,
      ⟨(some 48), .pick (.t 41) (.t 47) (.k (.c (.bool false))), some (37, false)⟩,
      ⟨(some 49), .pick (.t 37) (.k (.c (.bool true))) (.t 48), none⟩,
      ⟨(some 50), .mov (.t 49), none⟩,
      ⟨(some 51), .mov (.t 7), some (50, false)⟩,
      ⟨(some 52), .len .sl (.t 51), some (50, false)⟩,
      ⟨(some 53), .mov (.t 5), some (50, false)⟩,
      ⟨(some 54), .bin .sub .no (.k (.c (.int .i64 4000))) (.t 53), some (50, false)⟩,
      ⟨(some 55), .bin .gtr .no (.t 52) (.t 54), some (50, false)⟩,
      ⟨(some 56), .pick (.t 50) (.k (.c (.bool true))) (.t 55), none⟩])
    (.cond (.t 56)
      (.seq (.region [2, 5, 6, 7, 27, 28, 29, 34, 35, 36, 37, 38, 39, 40, 41, 42, 43, 44, 45, 46, 47, 48, 49, 50, 51, 52, 53, 54, 55, 56] [⟨(some 4), .mov (.k (.c (.int .i64 0))), none⟩])
      (.ret))
      (.skip)))
    (.region [6, 34, 35, 36, 37, 38, 39, 40, 41, 42, 43, 44, 45, 46, 47, 48, 49, 50, 51, 52, 53, 54, 55, 56] [⟨(some 57), .mov (.t 5), none⟩,
      ⟨(some 58), .mov (.t 7), none⟩,
      ⟨(some 59), .len .sl (.t 58), none⟩,
      ⟨(some 60), .bin .add .no (.t 57) (.t 59), none⟩,
      ⟨(some 5), .mov (.t 60), none⟩]))))
  (.region [7, 57, 58, 59, 60] [⟨(some 61), .bin .add .no (.t 29) (.k (.c (.int .i64 1))), none⟩,
    ⟨(some 29), .mov (.t 61), none⟩])))
def code85 : SCode :=
  .seq (.region [] [⟨(some 2), .lbox 3 (.t 0), none⟩,
    ⟨(some 4), .mov (.k (.c (.int .i64 0))), none⟩])
  (.seq (.seq (.region [0, 4] [⟨(some 8), .faddr 2 (.t 2), none⟩,
    ⟨(some 9), .load none (.t 8), none⟩,
    ⟨(some 10), .len .sl (.t 9), none⟩,
    ⟨(some 11), .bin .lss .no (.t 10) (.k (.c (.int .i64 1))), none⟩,
    ⟨(some 12), .mov (.t 11), none⟩,
    ⟨(some 13), .faddr 2 (.t 2), some (12, false)⟩,
    ⟨(some 14), .load none (.t 13), some (12, false)⟩,
    ⟨(some 15), .len .sl (.t 14), some (12, false)⟩,
    ⟨(some 16), .bin .gtr .no (.t 15) (.k (.c (.int .i64 24))), some (12, false)⟩,
    ⟨(some 17), .pick (.t 12) (.k (.c (.bool true))) (.t 16), none⟩])
  (.cond (.t 17)
    (.seq (.region [1, 2, 8, 9, 10, 11, 12, 13, 14, 15, 16, 17] [⟨(some 4), .mov (.k (.c (.int .i64 0))), none⟩])
    (.ret))
    (.skip)))
  (.seq (.drawn [8, 9, 10, 11, 12, 13, 14, 15, 16, 17] [⟨0, ⟨(some 18), .mov (.t 1), none⟩, []⟩,
    ⟨2, ⟨(some 20), .faddr 2 (.t 2), none⟩, []⟩,
    ⟨3, ⟨(some 21), .load none (.t 20), none⟩, []⟩,
    ⟨4, ⟨(some 22), .len .sl (.t 21), none⟩, []⟩,
    ⟨5, ⟨(some 23), .bin .sub .no (.t 22) (.k (.c (.int .i64 1))), none⟩, []⟩,
    ⟨1, ⟨(some 19), .call 38 [(.t 18)], none⟩, [3]⟩,
    ⟨6, ⟨(some 24), .call 70 [(.t 23), (.k (.c (.int .i64 11)))], none⟩, []⟩,
    ⟨7, ⟨(some 25), .bin .add .no (.t 19) (.t 24), none⟩, []⟩,
    ⟨8, ⟨(some 5), .mov (.t 25), none⟩, []⟩])
  (.seq (.seq (.region [1, 18, 19, 20, 21, 22, 23, 24, 25] [⟨(some 26), .faddr 2 (.t 2), none⟩,
    ⟨(some 27), .load none (.t 26), none⟩,
    ⟨(some 28), .len .sl (.t 27), none⟩,
    ⟨(some 29), .mov (.k (.c (.int .i64 0))), none⟩])
  (.block 0 (.loop lp85_0)))
  (.seq (.region [2, 27, 28, 29, 30] [⟨(some 62), .mov (.t 5), none⟩,
    ⟨(some 4), .mov (.t 62), none⟩])
  (.ret)))))
def fun85 : SFun := ⟨code85, 63, [.tmp 4]⟩

/- 86 slices.IndexFunc[[]bowline/status.Miss,bowline/status.Miss] params #[35, 136] results #[3] -/
def ann86 : Ann := ⟨[], [(1, [4]), (2, [6, 18]), (3, [9]), (4, [10]), (5, [0, 1, 7, 8, 11, 12, 13, 14, 15, 16]), (6, [5, 11, 12, 13, 14, 15, 16]), (7, [0, 1, 7, 8, 9])]⟩
def lp86_0 : SCode :=
  .seq (.region [6, 18] [⟨(some 9), .bin .lss .no (.t 8) (.t 7), none⟩])
  (.seq (.cond (.t 9)
    (.skip)
    (.exit 0))
  (.seq (.block 1 (.seq (.region [9] [⟨(some 10), .mov (.t 8), none⟩,
      ⟨(some 5), .mov (.t 10), none⟩])
    (.seq (.region [10] [⟨(some 11), .mov (.t 1), none⟩,
      ⟨(some 12), .mov (.t 0), none⟩,
      ⟨(some 13), .mov (.t 5), none⟩,
      ⟨(some 14), .iaddr 4 none (.t 12) (.t 13), none⟩,
      ⟨(some 15), .load (some 4) (.t 14), none⟩,
      ⟨(some 16), .callv (.t 11) [(.t 15)], none⟩])
    (.cond (.t 16)
      (.seq (.region [0, 1, 7, 8, 11, 12, 13, 14, 15, 16] [⟨(some 17), .mov (.t 5), none⟩,
        ⟨(some 4), .mov (.t 17), none⟩])
      (.ret))
      (.skip)))))
  (.region [5, 11, 12, 13, 14, 15, 16] [⟨(some 18), .bin .add .no (.t 8) (.k (.c (.int .i64 1))), none⟩,
    ⟨(some 8), .mov (.t 18), none⟩])))
def code86 : SCode :=
  .seq (.region [] [⟨(some 4), .mov (.k (.c (.int .i64 0))), none⟩])
  (.seq (.seq (.region [4] [⟨(some 6), .mov (.t 0), none⟩,
    ⟨(some 7), .len .sl (.t 6), none⟩,
    ⟨(some 8), .mov (.k (.c (.int .i64 0))), none⟩])
  (.block 0 (.loop lp86_0)))
  (.seq (.region [0, 1, 7, 8, 9] [⟨(some 4), .mov (.k (.c (.int .i64 (-1)))), none⟩])
  (.ret)))
def fun86 : SFun := ⟨code86, 19, [.tmp 4]⟩

/- 87 bowline/seqnum.Right params #[126] results #[4] -/
def ann87 : Ann := ⟨[1], [(1, [0, 2])]⟩
def code87 : SCode :=
  .seq (.region [] [⟨(some 1), .lbox 1 (.t 0), none⟩,
    ⟨(some 2), .mov (.k (.c (.bool false))), none⟩])
  (.seq (.region [0, 2] [⟨(some 3), .load (some 1) (.t 1), none⟩,
    ⟨(some 4), .build [(.c (.int .i64 0))] [], none⟩,
    ⟨(some 5), .bin .neq (.agg [.i]) (.t 3) (.t 4), none⟩,
    ⟨(some 6), .mov (.t 5), none⟩,
    ⟨(some 7), .faddr 0 (.t 1), some (6, true)⟩,
    ⟨(some 8), .load none (.t 7), some (6, true)⟩,
    ⟨(some 9), .bin .geq .no (.t 8) (.k (.c (.int .i64 1))), some (6, true)⟩,
    ⟨(some 10), .pick (.t 6) (.t 9) (.k (.c (.bool false))), none⟩,
    ⟨(some 11), .mov (.t 10), none⟩,
    ⟨(some 12), .faddr 0 (.t 1), some (11, true)⟩,
    ⟨(some 13), .load none (.t 12), some (11, true)⟩,
    ⟨(some 14), .bin .leq .no (.t 13) (.k (.c (.int .i64 16))), some (11, true)⟩,
    ⟨(some 15), .pick (.t 11) (.t 14) (.k (.c (.bool false))), none⟩,
    ⟨(some 2), .mov (.t 15), none⟩])
  (.ret))
def fun87 : SFun := ⟨code87, 16, [.tmp 2]⟩

def tbl : FuncId → Option SFun
  | 3 => some fun3
  | 4 => some fun4
  | 5 => some fun5
  | 6 => some fun6
  | 7 => some fun7
  | 8 => some fun8
  | 9 => some fun9
  | 10 => some fun10
  | 11 => some fun11
  | 12 => some fun12
  | 13 => some fun13
  | 14 => some fun14
  | 15 => some fun15
  | 16 => some fun16
  | 17 => some fun17
  | 18 => some fun18
  | 19 => some fun19
  | 20 => some fun20
  | 21 => some fun21
  | 22 => some fun22
  | 23 => some fun23
  | 24 => some fun24
  | 25 => some fun25
  | 26 => some fun26
  | 27 => some fun27
  | 28 => some fun28
  | 29 => some fun29
  | 30 => some fun30
  | 31 => some fun31
  | 32 => some fun32
  | 33 => some fun33
  | 34 => some fun34
  | 35 => some fun35
  | 36 => some fun36
  | 37 => some fun37
  | 38 => some fun38
  | 39 => some fun39
  | 40 => some fun40
  | 41 => some fun41
  | 42 => some fun42
  | 43 => some fun43
  | 44 => some fun44
  | 45 => some fun45
  | 46 => some fun46
  | 47 => some fun47
  | 48 => some fun48
  | 49 => some fun49
  | 50 => some fun50
  | 51 => some fun51
  | 52 => some fun52
  | 53 => some fun53
  | 54 => some fun54
  | 55 => some fun55
  | 56 => some fun56
  | 57 => some fun57
  | 58 => some fun58
  | 60 => some fun60
  | 61 => some fun61
  | 62 => some fun62
  | 63 => some fun63
  | 64 => some fun64
  | 65 => some fun65
  | 66 => some fun66
  | 67 => some fun67
  | 68 => some fun68
  | 69 => some fun69
  | 70 => some fun70
  | 71 => some fun71
  | 72 => some fun72
  | 73 => some fun73
  | 74 => some fun74
  | 75 => some fun75
  | 76 => some fun76
  | 77 => some fun77
  | 79 => some fun79
  | 80 => some fun80
  | 81 => some fun81
  | 82 => some fun82
  | 83 => some fun83
  | 84 => some fun84
  | 85 => some fun85
  | 86 => some fun86
  | 87 => some fun87
  | _ => none
def X0 : Oracle := fun _ _ _ => none
end Go.A.SeatB
