/- The mirror's code of the seat's functions; printed by MirPrint.lean. -/
import Derived.Test.YtfenkmaanbgalaaMir24
import Derived.Test.YtfenkmaanbgalaaRows
namespace Go.Proofs.Ytfenkmaanbgalaa
/-- scribe/scribelaw02.SumSums -/
def g3 : Mir.Fn := ⟨106, [.tmp 6],
  (.seq
   (.ops [⟨(some 6), none, .p (.mv (.c (.bool false))), 0, []⟩])
   (.seq
    (.ops [⟨(some 11), none, .p (.mv (.tmp 0)), 0, []⟩,
     ⟨(some 12), none, .h (.call (.c (.fn 10 [] [])) [(.tmp 11), (.c (.int .i64 8000))]), 0, []⟩,
     ⟨(some 13), none, .p (.mv (.tmp 2)), 0, []⟩,
     ⟨(some 14), none, .h (.call (.c (.fn 10 [] [])) [(.tmp 13), (.c (.int .i64 12))]), 0, []⟩,
     ⟨(some 0), none, .p (.mv (.tmp 12)), 0, []⟩,
     ⟨(some 2), none, .p (.mv (.tmp 14)), 0, []⟩])
    (.seq
     (.ops [⟨(some 15), none, .p (.mv (.tmp 0)), 0, []⟩,
      ⟨(some 16), none, .h (.call (.c (.fn 11 [] [])) [(.tmp 15)]), 0, []⟩,
      ⟨(some 7), none, .p (.mv (.tmp 16)), 0, []⟩])
     (.seq
      (.seq
       (.ops [⟨(some 17), none, .h (.call (.c (.fn 12 [] [])) []), 0, []⟩,
        ⟨(some 18), none, .p (.un .not (.tmp 17)), 0, []⟩,
        ⟨(some 19), none, .p (.mv (.tmp 18)), 0, []⟩,
        ⟨(some 20), (some (19, false)), .p (.mv (.tmp 0)), 0, []⟩,
        ⟨(some 21), (some (19, false)), .h (.call (.c (.fn 13 [] [])) [(.tmp 20)]), 0, []⟩,
        ⟨(some 22), (some (19, false)), .p (.mv (.tmp 7)), 0, []⟩,
        ⟨(some 23), (some (19, false)), .p (.bin .neq (.tmp 21) (.tmp 22)), 0, []⟩,
        ⟨(some 24), none, .p (.pick (.tmp 19) (.c (.bool true)) (.tmp 23)), 0, []⟩,
        ⟨(some 25), none, .p (.mv (.tmp 24)), 0, []⟩,
        ⟨(some 26), (some (25, false)), .p (.mv (.tmp 7)), 0, []⟩,
        ⟨(some 27), (some (25, false)), .h (.call (.c (.fn 14 [] [])) [(.tmp 26)]), 0, []⟩,
        ⟨(some 28), (some (25, false)), .p (.mv (.tmp 7)), 0, []⟩,
        ⟨(some 29), (some (25, false)), .h (.call (.c (.fn 15 [] [])) [(.tmp 28)]), 0, []⟩,
        ⟨(some 30), (some (25, false)), .p (.bin .neq (.tmp 27) (.tmp 29)), 0, []⟩,
        ⟨(some 31), none, .p (.pick (.tmp 25) (.c (.bool true)) (.tmp 30)), 0, []⟩,
        ⟨(some 32), none, .p (.mv (.tmp 31)), 0, []⟩,
        ⟨(some 33), (some (32, false)), .p (.mv (.tmp 7)), 0, []⟩,
        ⟨(some 34), (some (32, false)), .h (.call (.c (.fn 14 [] [])) [(.tmp 33)]), 0, []⟩,
        ⟨(some 35), (some (32, false)), .p (.mv (.tmp 0)), 0, []⟩,
        ⟨(some 36), (some (32, false)), .h (.call (.c (.fn 16 [] [])) [(.tmp 34), (.tmp 35)]), 0, []⟩,
        ⟨(some 37), (some (32, false)), .p (.bin .neq (.tmp 36) (.c (.int .i64 0))), 0, []⟩,
        ⟨(some 38), none, .p (.pick (.tmp 32) (.c (.bool true)) (.tmp 37)), 0, []⟩])
       (.cond (.tmp 38)
        (.seq
         (.ops [⟨(some 6), none, .p (.mv (.c (.bool false))), 0, []⟩])
         .ret)
        .skip))
      (.seq
       (.ops [⟨(some 8), none, .p (.mv (.c (.int .i64 4))), 0, []⟩])
       (.seq
        (.ops [⟨(some 39), none, .p (.mv (.tmp 2)), 0, []⟩,
         ⟨(some 40), none, .p (.lenStr (.tmp 39)), 0, []⟩,
         ⟨(some 41), none, .p (.bin .eql (.tmp 40) (.c (.int .i64 8))), 0, []⟩,
         ⟨(some 9), none, .p (.mv (.tmp 41)), 0, []⟩])
        (.seq
         (.seq
          (.ops [⟨(some 10), none, .p (.mv (.c (.int .i64 0))), 0, []⟩])
          (.block 0
           (.loop
            (.seq
             (.seq
              (.ops [⟨(some 42), none, .p (.mv (.tmp 10)), 0, []⟩,
               ⟨(some 43), none, .p (.mv (.tmp 2)), 0, []⟩,
               ⟨(some 44), none, .p (.lenStr (.tmp 43)), 0, []⟩,
               ⟨(some 45), none, .p (.bin .lss (.tmp 42) (.tmp 44)), 0, []⟩])
              (.cond (.tmp 45)
               .skip
               (.exit 0)))
             (.seq
              (.block 1
               (.ops [⟨(some 48), none, .p (.mv (.tmp 9)), 0, []⟩,
                ⟨(some 49), none, .p (.mv (.tmp 48)), 0, []⟩,
                ⟨(some 50), (some (49, true)), .p (.mv (.tmp 2)), 0, []⟩,
                ⟨(some 51), (some (49, true)), .p (.mv (.tmp 10)), 0, []⟩,
                ⟨(some 52), (some (49, true)), .p (.idxStr (.tmp 50) (.tmp 51)), 0, []⟩,
                ⟨(some 53), (some (49, true)), .p (.bin .geq (.tmp 52) (.c (.int .u8 48))), 0, []⟩,
                ⟨(some 54), (some (49, true)), .p (.mv (.tmp 53)), 0, []⟩,
                ⟨(some 55), (some (54, true)), .p (.mv (.tmp 2)), 0, []⟩,
                ⟨(some 56), (some (54, true)), .p (.mv (.tmp 10)), 0, []⟩,
                ⟨(some 57), (some (54, true)), .p (.idxStr (.tmp 55) (.tmp 56)), 0, []⟩,
                ⟨(some 58), (some (54, true)), .p (.bin .leq (.tmp 57) (.c (.int .u8 57))), 0, []⟩,
                ⟨(some 59), (some (49, true)), .p (.pick (.tmp 54) (.tmp 58) (.c (.bool false))), 0, []⟩,
                ⟨(some 60), (some (49, true)), .p (.mv (.tmp 59)), 0, []⟩,
                ⟨(some 61), (some (60, false)), .p (.mv (.tmp 2)), 0, []⟩,
                ⟨(some 62), (some (60, false)), .p (.mv (.tmp 10)), 0, []⟩,
                ⟨(some 63), (some (60, false)), .p (.idxStr (.tmp 61) (.tmp 62)), 0, []⟩,
                ⟨(some 64), (some (60, false)), .p (.bin .geq (.tmp 63) (.c (.int .u8 97))), 0, []⟩,
                ⟨(some 65), (some (60, false)), .p (.mv (.tmp 64)), 0, []⟩,
                ⟨(some 66), (some (65, true)), .p (.mv (.tmp 2)), 0, []⟩,
                ⟨(some 67), (some (65, true)), .p (.mv (.tmp 10)), 0, []⟩,
                ⟨(some 68), (some (65, true)), .p (.idxStr (.tmp 66) (.tmp 67)), 0, []⟩,
                ⟨(some 69), (some (65, true)), .p (.bin .leq (.tmp 68) (.c (.int .u8 102))), 0, []⟩,
                ⟨(some 70), (some (60, false)), .p (.pick (.tmp 65) (.tmp 69) (.c (.bool false))), 0, []⟩,
                ⟨(some 71), (some (49, true)), .p (.pick (.tmp 60) (.c (.bool true)) (.tmp 70)), 0, []⟩,
                ⟨(some 72), none, .p (.pick (.tmp 49) (.tmp 71) (.c (.bool false))), 0, []⟩,
                ⟨(some 9), none, .p (.mv (.tmp 72)), 0, []⟩]))
              (.ops [⟨(some 46), none, .p (.mv (.tmp 10)), 0, []⟩,
               ⟨(some 47), none, .p (.bin .add (.tmp 46) (.c (.int .i64 1))), 0, []⟩,
               ⟨(some 10), none, .p (.mv (.tmp 47)), 0, []⟩]))))))
         (.seq
          (.seq
           (.ops [⟨(some 73), none, .p (.mv (.tmp 9)), 0, []⟩,
            ⟨(some 74), none, .p (.un .not (.tmp 73)), 0, []⟩])
           (.cond (.tmp 74)
            (.ops [⟨(some 8), none, .p (.mv (.c (.int .i64 3))), 0, []⟩])
            (.seq
             (.ops [⟨(some 75), none, .p (.mv (.tmp 2)), 0, []⟩,
              ⟨(some 76), none, .p (.mv (.tmp 7)), 0, []⟩,
              ⟨(some 77), none, .h (.call (.c (.fn 15 [] [])) [(.tmp 76)]), 0, []⟩,
              ⟨(some 78), none, .p (.bin .eql (.tmp 75) (.tmp 77)), 0, []⟩])
             (.cond (.tmp 78)
              (.ops [⟨(some 8), none, .p (.mv (.c (.int .i64 0))), 0, []⟩])
              .skip))))
          (.seq
           (.seq
            (.ops [⟨(some 79), none, .p (.mv (.tmp 2)), 0, []⟩,
             ⟨(some 80), none, .p (.mv (.tmp 0)), 0, []⟩,
             ⟨(some 81), none, .h (.call (.c (.fn 16 [] [])) [(.tmp 79), (.tmp 80)]), 0, []⟩,
             ⟨(some 82), none, .p (.mv (.tmp 8)), 0, []⟩,
             ⟨(some 83), none, .p (.bin .neq (.tmp 81) (.tmp 82)), 0, []⟩])
            (.cond (.tmp 83)
             (.seq
              (.ops [⟨(some 6), none, .p (.mv (.c (.bool false))), 0, []⟩])
              .ret)
             .skip))
           (.seq
            (.draw [⟨(some 84), none, .p (.mv (.tmp 1)), 0, []⟩,
             ⟨(some 85), none, .p (.bin .lss (.tmp 84) (.c (.int .i64 0))), 1, []⟩,
             ⟨(some 86), none, .p (.mv (.tmp 85)), 2, []⟩,
             ⟨(some 87), (some (86, false)), .p (.mv (.tmp 1)), 3, []⟩,
             ⟨(some 88), (some (86, false)), .p (.mv (.tmp 0)), 4, []⟩,
             ⟨(some 89), (some (86, false)), .p (.lenStr (.tmp 88)), 5, []⟩,
             ⟨(some 90), (some (86, false)), .p (.bin .gtr (.tmp 87) (.tmp 89)), 6, []⟩,
             ⟨(some 91), none, .p (.pick (.tmp 86) (.c (.bool true)) (.tmp 90)), 7, []⟩,
             ⟨(some 92), none, .p (.mv (.tmp 91)), 8, []⟩,
             ⟨(some 94), (some (92, false)), .p (.mv (.tmp 0)), 10, []⟩,
             ⟨(some 95), (some (92, false)), .p (.mv (.tmp 1)), 11, []⟩,
             ⟨(some 96), (some (92, false)), .p (.subStr (.tmp 94) none (some (.tmp 95))), 12, []⟩,
             ⟨(some 98), (some (92, false)), .p (.mv (.tmp 0)), 14, []⟩,
             ⟨(some 99), (some (92, false)), .p (.mv (.tmp 1)), 15, []⟩,
             ⟨(some 100), (some (92, false)), .p (.subStr (.tmp 98) (some (.tmp 99)) none), 16, []⟩,
             ⟨(some 103), (some (92, false)), .p (.mv (.tmp 7)), 19, []⟩,
             ⟨(some 93), (some (92, false)), .h (.call (.c (.fn 17 [] [])) []), 9, []⟩,
             ⟨(some 97), (some (92, false)), .h (.call (.c (.fn 18 [] [])) [(.tmp 93), (.tmp 96)]), 13, []⟩,
             ⟨(some 101), (some (92, false)), .h (.call (.c (.fn 18 [] [])) [(.tmp 97), (.tmp 100)]), 17, []⟩,
             ⟨(some 102), (some (92, false)), .h (.call (.c (.fn 19 [] [])) [(.tmp 101)]), 18, []⟩,
             ⟨(some 104), (some (92, false)), .p (.bin .eql (.tmp 102) (.tmp 103)), 20, []⟩,
             ⟨(some 105), none, .p (.pick (.tmp 92) (.c (.bool true)) (.tmp 104)), 21, []⟩,
             ⟨(some 6), none, .p (.mv (.tmp 105)), 22, []⟩])
            .ret))))))))))⟩
/-- scribe/scribelaw02.SumChanged -/
def g4 : Mir.Fn := ⟨43, [.tmp 6],
  (.seq
   (.ops [⟨(some 6), none, .p (.mv (.c (.bool false))), 0, []⟩])
   (.seq
    (.ops [⟨(some 8), none, .p (.mv (.tmp 0)), 0, []⟩,
     ⟨(some 9), none, .h (.call (.c (.fn 10 [] [])) [(.tmp 8), (.c (.int .i64 3000))]), 0, []⟩,
     ⟨(some 0), none, .p (.mv (.tmp 9)), 0, []⟩])
    (.seq
     (.seq
      (.ops [⟨(some 10), none, .p (.mv (.tmp 1)), 0, []⟩,
       ⟨(some 11), none, .p (.bin .lss (.tmp 10) (.c (.int .i64 0))), 0, []⟩,
       ⟨(some 12), none, .p (.mv (.tmp 11)), 0, []⟩,
       ⟨(some 13), (some (12, false)), .p (.mv (.tmp 1)), 0, []⟩,
       ⟨(some 14), (some (12, false)), .p (.mv (.tmp 0)), 0, []⟩,
       ⟨(some 15), (some (12, false)), .p (.lenStr (.tmp 14)), 0, []⟩,
       ⟨(some 16), (some (12, false)), .p (.bin .geq (.tmp 13) (.tmp 15)), 0, []⟩,
       ⟨(some 17), none, .p (.pick (.tmp 12) (.c (.bool true)) (.tmp 16)), 0, []⟩])
      (.cond (.tmp 17)
       (.seq
        (.ops [⟨(some 18), none, .h (.call (.c (.fn 12 [] [])) []), 0, []⟩,
         ⟨(some 6), none, .p (.mv (.tmp 18)), 0, []⟩])
        .ret)
       .skip))
     (.seq
      (.draw [⟨(some 19), none, .p (.mv (.tmp 0)), 0, []⟩,
       ⟨(some 20), none, .p (.mv (.tmp 1)), 1, []⟩,
       ⟨(some 21), none, .p (.subStr (.tmp 19) none (some (.tmp 20))), 2, []⟩,
       ⟨(some 22), none, .p (.mv (.tmp 2)), 3, []⟩,
       ⟨(some 23), none, .a (.mkSl [(.int .u8 0)] 1 1 [(0, 1, (.tmp 22))]), 4, []⟩,
       ⟨(some 24), none, .r (.toStr (.tmp 23)), 5, []⟩,
       ⟨(some 25), none, .p (.bin .add (.tmp 21) (.tmp 24)), 6, []⟩,
       ⟨(some 26), none, .p (.mv (.tmp 0)), 7, []⟩,
       ⟨(some 27), none, .p (.mv (.tmp 1)), 8, []⟩,
       ⟨(some 28), none, .p (.bin .add (.tmp 27) (.c (.int .i64 1))), 9, []⟩,
       ⟨(some 29), none, .p (.subStr (.tmp 26) (some (.tmp 28)) none), 10, []⟩,
       ⟨(some 30), none, .p (.bin .add (.tmp 25) (.tmp 29)), 11, []⟩,
       ⟨(some 7), none, .p (.mv (.tmp 30)), 12, []⟩])
      (.seq
       (.ops [⟨(some 31), none, .h (.call (.c (.fn 12 [] [])) []), 0, []⟩,
        ⟨(some 32), none, .p (.mv (.tmp 31)), 0, []⟩,
        ⟨(some 33), (some (32, true)), .p (.mv (.tmp 7)), 0, []⟩,
        ⟨(some 34), (some (32, true)), .h (.call (.c (.fn 13 [] [])) [(.tmp 33)]), 0, []⟩,
        ⟨(some 35), (some (32, true)), .p (.mv (.tmp 0)), 0, []⟩,
        ⟨(some 36), (some (32, true)), .h (.call (.c (.fn 13 [] [])) [(.tmp 35)]), 0, []⟩,
        ⟨(some 37), (some (32, true)), .p (.bin .eql (.tmp 34) (.tmp 36)), 0, []⟩,
        ⟨(some 38), (some (32, true)), .p (.mv (.tmp 7)), 0, []⟩,
        ⟨(some 39), (some (32, true)), .p (.mv (.tmp 0)), 0, []⟩,
        ⟨(some 40), (some (32, true)), .p (.bin .eql (.tmp 38) (.tmp 39)), 0, []⟩,
        ⟨(some 41), (some (32, true)), .p (.eq .bool false (.tmp 37) (.tmp 40)), 0, []⟩,
        ⟨(some 42), none, .p (.pick (.tmp 32) (.tmp 41) (.c (.bool false))), 0, []⟩,
        ⟨(some 6), none, .p (.mv (.tmp 42)), 0, []⟩])
       .ret)))))⟩
/-- scribe/scribelaw02.SumTurned -/
def g5 : Mir.Fn := ⟨56, [.tmp 4],
  (.seq
   (.ops [⟨(some 4), none, .p (.mv (.c (.bool false))), 0, []⟩])
   (.seq
    (.ops [⟨(some 6), none, .p (.mv (.tmp 0)), 0, []⟩,
     ⟨(some 7), none, .h (.call (.c (.fn 10 [] [])) [(.tmp 6), (.c (.int .i64 3000))]), 0, []⟩,
     ⟨(some 0), none, .p (.mv (.tmp 7)), 0, []⟩])
    (.seq
     (.seq
      (.ops [⟨(some 8), none, .p (.mv (.tmp 1)), 0, []⟩,
       ⟨(some 9), none, .p (.bin .lss (.tmp 8) (.c (.int .i64 0))), 0, []⟩,
       ⟨(some 10), none, .p (.mv (.tmp 9)), 0, []⟩,
       ⟨(some 11), (some (10, false)), .p (.mv (.tmp 1)), 0, []⟩,
       ⟨(some 12), (some (10, false)), .p (.mv (.tmp 0)), 0, []⟩,
       ⟨(some 13), (some (10, false)), .p (.lenStr (.tmp 12)), 0, []⟩,
       ⟨(some 14), (some (10, false)), .p (.bin .sub (.tmp 13) (.c (.int .i64 1))), 0, []⟩,
       ⟨(some 15), (some (10, false)), .p (.bin .geq (.tmp 11) (.tmp 14)), 0, []⟩,
       ⟨(some 16), none, .p (.pick (.tmp 10) (.c (.bool true)) (.tmp 15)), 0, []⟩])
      (.cond (.tmp 16)
       (.seq
        (.ops [⟨(some 17), none, .h (.call (.c (.fn 12 [] [])) []), 0, []⟩,
         ⟨(some 4), none, .p (.mv (.tmp 17)), 0, []⟩])
        .ret)
       .skip))
     (.seq
      (.draw [⟨(some 18), none, .p (.mv (.tmp 0)), 0, []⟩,
       ⟨(some 19), none, .p (.mv (.tmp 1)), 1, []⟩,
       ⟨(some 20), none, .p (.subStr (.tmp 18) none (some (.tmp 19))), 2, []⟩,
       ⟨(some 21), none, .p (.mv (.tmp 0)), 3, []⟩,
       ⟨(some 22), none, .p (.mv (.tmp 1)), 4, []⟩,
       ⟨(some 23), none, .p (.bin .add (.tmp 22) (.c (.int .i64 1))), 5, []⟩,
       ⟨(some 24), none, .p (.mv (.tmp 1)), 6, []⟩,
       ⟨(some 25), none, .p (.bin .add (.tmp 24) (.c (.int .i64 2))), 7, []⟩,
       ⟨(some 26), none, .p (.subStr (.tmp 21) (some (.tmp 23)) (some (.tmp 25))), 8, []⟩,
       ⟨(some 27), none, .p (.bin .add (.tmp 20) (.tmp 26)), 9, []⟩,
       ⟨(some 28), none, .p (.mv (.tmp 0)), 10, []⟩,
       ⟨(some 29), none, .p (.mv (.tmp 1)), 11, []⟩,
       ⟨(some 30), none, .p (.mv (.tmp 1)), 12, []⟩,
       ⟨(some 31), none, .p (.bin .add (.tmp 30) (.c (.int .i64 1))), 13, []⟩,
       ⟨(some 32), none, .p (.subStr (.tmp 28) (some (.tmp 29)) (some (.tmp 31))), 14, []⟩,
       ⟨(some 33), none, .p (.bin .add (.tmp 27) (.tmp 32)), 15, []⟩,
       ⟨(some 34), none, .p (.mv (.tmp 0)), 16, []⟩,
       ⟨(some 35), none, .p (.mv (.tmp 1)), 17, []⟩,
       ⟨(some 36), none, .p (.bin .add (.tmp 35) (.c (.int .i64 2))), 18, []⟩,
       ⟨(some 37), none, .p (.subStr (.tmp 34) (some (.tmp 36)) none), 19, []⟩,
       ⟨(some 38), none, .p (.bin .add (.tmp 33) (.tmp 37)), 20, []⟩,
       ⟨(some 5), none, .p (.mv (.tmp 38)), 21, []⟩])
      (.seq
       (.draw [⟨(some 39), none, .h (.call (.c (.fn 12 [] [])) []), 0, []⟩,
        ⟨(some 40), none, .p (.mv (.tmp 39)), 1, []⟩,
        ⟨(some 41), (some (40, true)), .p (.mv (.tmp 5)), 2, []⟩,
        ⟨(some 43), (some (40, true)), .p (.mv (.tmp 0)), 4, []⟩,
        ⟨(some 46), (some (40, true)), .p (.mv (.tmp 0)), 7, []⟩,
        ⟨(some 47), (some (40, true)), .p (.mv (.tmp 1)), 8, []⟩,
        ⟨(some 48), (some (40, true)), .p (.idxStr (.tmp 46) (.tmp 47)), 9, []⟩,
        ⟨(some 49), (some (40, true)), .p (.mv (.tmp 0)), 10, []⟩,
        ⟨(some 50), (some (40, true)), .p (.mv (.tmp 1)), 11, []⟩,
        ⟨(some 51), (some (40, true)), .p (.bin .add (.tmp 50) (.c (.int .i64 1))), 12, []⟩,
        ⟨(some 52), (some (40, true)), .p (.idxStr (.tmp 49) (.tmp 51)), 13, []⟩,
        ⟨(some 53), (some (40, true)), .p (.bin .eql (.tmp 48) (.tmp 52)), 14, []⟩,
        ⟨(some 42), (some (40, true)), .h (.call (.c (.fn 13 [] [])) [(.tmp 41)]), 3, []⟩,
        ⟨(some 44), (some (40, true)), .h (.call (.c (.fn 13 [] [])) [(.tmp 43)]), 5, []⟩,
        ⟨(some 45), (some (40, true)), .p (.bin .eql (.tmp 42) (.tmp 44)), 6, []⟩,
        ⟨(some 54), (some (40, true)), .p (.eq .bool false (.tmp 45) (.tmp 53)), 15, []⟩,
        ⟨(some 55), none, .p (.pick (.tmp 40) (.tmp 54) (.c (.bool false))), 16, []⟩,
        ⟨(some 4), none, .p (.mv (.tmp 55)), 17, []⟩])
       .ret)))))⟩
/-- scribe/scribelaw02.SumHex -/
def g6 : Mir.Fn := ⟨50, [.tmp 6],
  (.seq
   (.ops [⟨(some 6), none, .p (.mv (.c (.bool false))), 0, []⟩])
   (.seq
    (.ops [⟨(some 8), none, .p (.mv (.tmp 2)), 0, []⟩,
     ⟨(some 9), none, .h (.call (.c (.fn 10 [] [])) [(.tmp 8), (.c (.int .i64 3000))]), 0, []⟩,
     ⟨(some 2), none, .p (.mv (.tmp 9)), 0, []⟩])
    (.seq
     (.ops [⟨(some 10), none, .p (.mv (.tmp 2)), 0, []⟩,
      ⟨(some 11), none, .h (.call (.c (.fn 13 [] [])) [(.tmp 10)]), 0, []⟩,
      ⟨(some 12), none, .h (.call (.c (.fn 14 [] [])) [(.tmp 11)]), 0, []⟩,
      ⟨(some 7), none, .p (.mv (.tmp 12)), 0, []⟩])
     (.seq
      (.ops [⟨(some 13), none, .h (.call (.c (.fn 12 [] [])) []), 0, []⟩,
       ⟨(some 14), none, .p (.mv (.tmp 13)), 0, []⟩,
       ⟨(some 15), (some (14, true)), .p (.mv (.tmp 0)), 0, []⟩,
       ⟨(some 16), (some (14, true)), .h (.call (.c (.fn 14 [] [])) [(.tmp 15)]), 0, []⟩,
       ⟨(some 17), (some (14, true)), .p (.lenStr (.tmp 16)), 0, []⟩,
       ⟨(some 18), (some (14, true)), .p (.bin .eql (.tmp 17) (.c (.int .i64 8))), 0, []⟩,
       ⟨(some 19), none, .p (.pick (.tmp 14) (.tmp 18) (.c (.bool false))), 0, []⟩,
       ⟨(some 20), none, .p (.mv (.tmp 19)), 0, []⟩,
       ⟨(some 21), (some (20, true)), .p (.mv (.tmp 0)), 0, []⟩,
       ⟨(some 22), (some (20, true)), .h (.call (.c (.fn 14 [] [])) [(.tmp 21)]), 0, []⟩,
       ⟨(some 23), (some (20, true)), .p (.mv (.tmp 1)), 0, []⟩,
       ⟨(some 24), (some (20, true)), .h (.call (.c (.fn 14 [] [])) [(.tmp 23)]), 0, []⟩,
       ⟨(some 25), (some (20, true)), .p (.bin .eql (.tmp 22) (.tmp 24)), 0, []⟩,
       ⟨(some 26), (some (20, true)), .p (.mv (.tmp 0)), 0, []⟩,
       ⟨(some 27), (some (20, true)), .p (.mv (.tmp 1)), 0, []⟩,
       ⟨(some 28), (some (20, true)), .p (.bin .eql (.tmp 26) (.tmp 27)), 0, []⟩,
       ⟨(some 29), (some (20, true)), .p (.eq .bool false (.tmp 25) (.tmp 28)), 0, []⟩,
       ⟨(some 30), none, .p (.pick (.tmp 20) (.tmp 29) (.c (.bool false))), 0, []⟩,
       ⟨(some 31), none, .p (.mv (.tmp 30)), 0, []⟩,
       ⟨(some 32), (some (31, true)), .p (.mv (.tmp 0)), 0, []⟩,
       ⟨(some 33), (some (31, true)), .h (.call (.c (.fn 14 [] [])) [(.tmp 32)]), 0, []⟩,
       ⟨(some 34), (some (31, true)), .p (.mv (.tmp 2)), 0, []⟩,
       ⟨(some 35), (some (31, true)), .h (.call (.c (.fn 16 [] [])) [(.tmp 33), (.tmp 34)]), 0, []⟩,
       ⟨(some 36), (some (31, true)), .p (.bin .eql (.tmp 35) (.c (.int .i64 0))), 0, []⟩,
       ⟨(some 37), (some (31, true)), .p (.mv (.tmp 0)), 0, []⟩,
       ⟨(some 38), (some (31, true)), .h (.call (.c (.fn 14 [] [])) [(.tmp 37)]), 0, []⟩,
       ⟨(some 39), (some (31, true)), .p (.mv (.tmp 7)), 0, []⟩,
       ⟨(some 40), (some (31, true)), .p (.bin .eql (.tmp 38) (.tmp 39)), 0, []⟩,
       ⟨(some 41), (some (31, true)), .p (.eq .bool false (.tmp 36) (.tmp 40)), 0, []⟩,
       ⟨(some 42), none, .p (.pick (.tmp 31) (.tmp 41) (.c (.bool false))), 0, []⟩,
       ⟨(some 43), none, .p (.mv (.tmp 42)), 0, []⟩,
       ⟨(some 44), (some (43, true)), .p (.mv (.tmp 7)), 0, []⟩,
       ⟨(some 45), (some (43, true)), .p (.bin .add (.tmp 44) (.c (.str [48]))), 0, []⟩,
       ⟨(some 46), (some (43, true)), .p (.mv (.tmp 2)), 0, []⟩,
       ⟨(some 47), (some (43, true)), .h (.call (.c (.fn 16 [] [])) [(.tmp 45), (.tmp 46)]), 0, []⟩,
       ⟨(some 48), (some (43, true)), .p (.bin .eql (.tmp 47) (.c (.int .i64 3))), 0, []⟩,
       ⟨(some 49), none, .p (.pick (.tmp 43) (.tmp 48) (.c (.bool false))), 0, []⟩,
       ⟨(some 6), none, .p (.mv (.tmp 49)), 0, []⟩])
      .ret))))⟩
/-- scribe/scribelaw02.SumJoins -/
def g7 : Mir.Fn := ⟨45, [.tmp 6],
  (.seq
   (.ops [⟨(some 6), none, .p (.mv (.c (.bool false))), 0, []⟩])
   (.seq
    (.seq
     (.ops [⟨(some 7), none, .p (.mv (.tmp 0)), 0, []⟩,
      ⟨(some 8), none, .p (.bin .rem (.tmp 7) (.c (.int .u32 65536))), 0, []⟩,
      ⟨(some 9), none, .p (.bin .gtr (.tmp 8) (.c (.int .u32 65520))), 0, []⟩,
      ⟨(some 10), none, .p (.mv (.tmp 9)), 0, []⟩,
      ⟨(some 11), (some (10, false)), .p (.mv (.tmp 0)), 0, []⟩,
      ⟨(some 12), (some (10, false)), .p (.bin .quo (.tmp 11) (.c (.int .u32 65536))), 0, []⟩,
      ⟨(some 13), (some (10, false)), .p (.bin .gtr (.tmp 12) (.c (.int .u32 65520))), 0, []⟩,
      ⟨(some 14), none, .p (.pick (.tmp 10) (.c (.bool true)) (.tmp 13)), 0, []⟩,
      ⟨(some 15), none, .p (.mv (.tmp 14)), 0, []⟩,
      ⟨(some 16), (some (15, false)), .p (.mv (.tmp 1)), 0, []⟩,
      ⟨(some 17), (some (15, false)), .p (.bin .rem (.tmp 16) (.c (.int .u32 65536))), 0, []⟩,
      ⟨(some 18), (some (15, false)), .p (.bin .gtr (.tmp 17) (.c (.int .u32 65520))), 0, []⟩,
      ⟨(some 19), none, .p (.pick (.tmp 15) (.c (.bool true)) (.tmp 18)), 0, []⟩,
      ⟨(some 20), none, .p (.mv (.tmp 19)), 0, []⟩,
      ⟨(some 21), (some (20, false)), .p (.mv (.tmp 1)), 0, []⟩,
      ⟨(some 22), (some (20, false)), .p (.bin .quo (.tmp 21) (.c (.int .u32 65536))), 0, []⟩,
      ⟨(some 23), (some (20, false)), .p (.bin .gtr (.tmp 22) (.c (.int .u32 65520))), 0, []⟩,
      ⟨(some 24), none, .p (.pick (.tmp 20) (.c (.bool true)) (.tmp 23)), 0, []⟩])
     (.cond (.tmp 24)
      (.seq
       (.ops [⟨(some 25), none, .h (.call (.c (.fn 12 [] [])) []), 0, []⟩,
        ⟨(some 6), none, .p (.mv (.tmp 25)), 0, []⟩])
       .ret)
      .skip))
    (.seq
     (.ops [⟨(some 26), none, .h (.call (.c (.fn 12 [] [])) []), 0, []⟩,
      ⟨(some 27), none, .p (.mv (.tmp 26)), 0, []⟩,
      ⟨(some 28), (some (27, true)), .p (.mv (.tmp 0)), 0, []⟩,
      ⟨(some 29), (some (27, true)), .p (.mv (.tmp 1)), 0, []⟩,
      ⟨(some 30), (some (27, true)), .p (.mv (.tmp 2)), 0, []⟩,
      ⟨(some 31), (some (27, true)), .h (.call (.c (.fn 20 [] [])) [(.tmp 28), (.tmp 29), (.tmp 30)]), 0, []⟩,
      ⟨(some 32), (some (27, true)), .p (.mv (.tmp 0)), 0, []⟩,
      ⟨(some 33), (some (27, true)), .p (.mv (.tmp 1)), 0, []⟩,
      ⟨(some 34), (some (27, true)), .p (.mv (.tmp 2)), 0, []⟩,
      ⟨(some 35), (some (27, true)), .h (.call (.c (.fn 21 [] [])) [(.tmp 32), (.tmp 33), (.tmp 34)]), 0, []⟩,
      ⟨(some 36), (some (27, true)), .p (.bin .eql (.tmp 31) (.tmp 35)), 0, []⟩,
      ⟨(some 37), none, .p (.pick (.tmp 27) (.tmp 36) (.c (.bool false))), 0, []⟩,
      ⟨(some 38), none, .p (.mv (.tmp 37)), 0, []⟩,
      ⟨(some 39), (some (38, true)), .p (.mv (.tmp 1)), 0, []⟩,
      ⟨(some 40), (some (38, true)), .h (.call (.c (.fn 14 [] [])) [(.tmp 39)]), 0, []⟩,
      ⟨(some 41), (some (38, true)), .p (.mv (.tmp 1)), 0, []⟩,
      ⟨(some 42), (some (38, true)), .h (.call (.c (.fn 15 [] [])) [(.tmp 41)]), 0, []⟩,
      ⟨(some 43), (some (38, true)), .p (.bin .eql (.tmp 40) (.tmp 42)), 0, []⟩,
      ⟨(some 44), none, .p (.pick (.tmp 38) (.tmp 43) (.c (.bool false))), 0, []⟩,
      ⟨(some 6), none, .p (.mv (.tmp 44)), 0, []⟩])
     .ret)))⟩
/-- scribe/scribelaw02.SumBoth -/
def g8 : Mir.Fn := ⟨33, [.tmp 4],
  (.seq
   (.ops [⟨(some 4), none, .p (.mv (.c (.bool false))), 0, []⟩])
   (.seq
    (.ops [⟨(some 5), none, .p (.mv (.tmp 0)), 0, []⟩,
     ⟨(some 6), none, .h (.call (.c (.fn 10 [] [])) [(.tmp 5), (.c (.int .i64 3000))]), 0, []⟩,
     ⟨(some 7), none, .p (.mv (.tmp 1)), 0, []⟩,
     ⟨(some 8), none, .h (.call (.c (.fn 10 [] [])) [(.tmp 7), (.c (.int .i64 3000))]), 0, []⟩,
     ⟨(some 0), none, .p (.mv (.tmp 6)), 0, []⟩,
     ⟨(some 1), none, .p (.mv (.tmp 8)), 0, []⟩])
    (.seq
     (.ops [⟨(some 9), none, .h (.call (.c (.fn 12 [] [])) []), 0, []⟩,
      ⟨(some 10), none, .p (.mv (.tmp 9)), 0, []⟩,
      ⟨(some 11), (some (10, true)), .p (.mv (.tmp 0)), 0, []⟩,
      ⟨(some 12), (some (10, true)), .h (.call (.c (.fn 13 [] [])) [(.tmp 11)]), 0, []⟩,
      ⟨(some 13), (some (10, true)), .p (.mv (.tmp 1)), 0, []⟩,
      ⟨(some 14), (some (10, true)), .h (.call (.c (.fn 13 [] [])) [(.tmp 13)]), 0, []⟩,
      ⟨(some 15), (some (10, true)), .p (.mv (.tmp 1)), 0, []⟩,
      ⟨(some 16), (some (10, true)), .p (.lenStr (.tmp 15)), 0, []⟩,
      ⟨(some 17), (some (10, true)), .h (.call (.c (.fn 20 [] [])) [(.tmp 12), (.tmp 14), (.tmp 16)]), 0, []⟩,
      ⟨(some 18), (some (10, true)), .p (.mv (.tmp 0)), 0, []⟩,
      ⟨(some 19), (some (10, true)), .p (.mv (.tmp 1)), 0, []⟩,
      ⟨(some 20), (some (10, true)), .p (.bin .add (.tmp 18) (.tmp 19)), 0, []⟩,
      ⟨(some 21), (some (10, true)), .h (.call (.c (.fn 13 [] [])) [(.tmp 20)]), 0, []⟩,
      ⟨(some 22), (some (10, true)), .p (.bin .eql (.tmp 17) (.tmp 21)), 0, []⟩,
      ⟨(some 23), none, .p (.pick (.tmp 10) (.tmp 22) (.c (.bool false))), 0, []⟩,
      ⟨(some 24), none, .p (.mv (.tmp 23)), 0, []⟩,
      ⟨(some 25), (some (24, true)), .p (.mv (.tmp 0)), 0, []⟩,
      ⟨(some 26), (some (24, true)), .h (.call (.c (.fn 13 [] [])) [(.tmp 25)]), 0, []⟩,
      ⟨(some 27), (some (24, true)), .h (.call (.c (.fn 13 [] [])) [(.c (.str []))]), 0, []⟩,
      ⟨(some 28), (some (24, true)), .h (.call (.c (.fn 20 [] [])) [(.tmp 26), (.tmp 27), (.c (.int .i64 0))]), 0, []⟩,
      ⟨(some 29), (some (24, true)), .p (.mv (.tmp 0)), 0, []⟩,
      ⟨(some 30), (some (24, true)), .h (.call (.c (.fn 13 [] [])) [(.tmp 29)]), 0, []⟩,
      ⟨(some 31), (some (24, true)), .p (.bin .eql (.tmp 28) (.tmp 30)), 0, []⟩,
      ⟨(some 32), none, .p (.pick (.tmp 24) (.tmp 31) (.c (.bool false))), 0, []⟩,
      ⟨(some 4), none, .p (.mv (.tmp 32)), 0, []⟩])
     .ret)))⟩
/-- scribe/scribelaw02.SumTrains -/
def g9 : Mir.Fn := ⟨61, [.tmp 6],
  (.seq
   (.ops [⟨(some 6), none, .p (.mv (.c (.bool false))), 0, []⟩])
   (.seq
    (.ops [⟨(some 12), none, .p (.mv (.tmp 0)), 0, []⟩,
     ⟨(some 13), none, .h (.call (.c (.fn 10 [] [])) [(.tmp 12), (.c (.int .i64 1000))]), 0, []⟩,
     ⟨(some 14), none, .p (.mv (.tmp 1)), 0, []⟩,
     ⟨(some 15), none, .h (.call (.c (.fn 10 [] [])) [(.tmp 14), (.c (.int .i64 1000))]), 0, []⟩,
     ⟨(some 16), none, .p (.mv (.tmp 2)), 0, []⟩,
     ⟨(some 17), none, .h (.call (.c (.fn 10 [] [])) [(.tmp 16), (.c (.int .i64 1000))]), 0, []⟩,
     ⟨(some 0), none, .p (.mv (.tmp 13)), 0, []⟩,
     ⟨(some 1), none, .p (.mv (.tmp 15)), 0, []⟩,
     ⟨(some 2), none, .p (.mv (.tmp 17)), 0, []⟩])
    (.seq
     (.ops [⟨(some 18), none, .p (.mv (.tmp 0)), 0, []⟩,
      ⟨(some 19), none, .h (.call (.c (.fn 13 [] [])) [(.tmp 18)]), 0, []⟩,
      ⟨(some 20), none, .p (.mv (.tmp 1)), 0, []⟩,
      ⟨(some 21), none, .h (.call (.c (.fn 13 [] [])) [(.tmp 20)]), 0, []⟩,
      ⟨(some 22), none, .p (.mv (.tmp 2)), 0, []⟩,
      ⟨(some 23), none, .h (.call (.c (.fn 13 [] [])) [(.tmp 22)]), 0, []⟩,
      ⟨(some 7), none, .p (.mv (.tmp 19)), 0, []⟩,
      ⟨(some 8), none, .p (.mv (.tmp 21)), 0, []⟩,
      ⟨(some 9), none, .p (.mv (.tmp 23)), 0, []⟩])
     (.seq
      (.ops [⟨(some 24), none, .p (.mv (.tmp 7)), 0, []⟩,
       ⟨(some 25), none, .p (.mv (.tmp 8)), 0, []⟩,
       ⟨(some 26), none, .p (.mv (.tmp 1)), 0, []⟩,
       ⟨(some 27), none, .p (.lenStr (.tmp 26)), 0, []⟩,
       ⟨(some 28), none, .h (.call (.c (.fn 20 [] [])) [(.tmp 24), (.tmp 25), (.tmp 27)]), 0, []⟩,
       ⟨(some 29), none, .p (.mv (.tmp 9)), 0, []⟩,
       ⟨(some 30), none, .p (.mv (.tmp 2)), 0, []⟩,
       ⟨(some 31), none, .p (.lenStr (.tmp 30)), 0, []⟩,
       ⟨(some 32), none, .h (.call (.c (.fn 20 [] [])) [(.tmp 28), (.tmp 29), (.tmp 31)]), 0, []⟩,
       ⟨(some 10), none, .p (.mv (.tmp 32)), 0, []⟩])
      (.seq
       (.ops [⟨(some 33), none, .p (.mv (.tmp 7)), 0, []⟩,
        ⟨(some 34), none, .p (.mv (.tmp 8)), 0, []⟩,
        ⟨(some 35), none, .p (.mv (.tmp 9)), 0, []⟩,
        ⟨(some 36), none, .p (.mv (.tmp 2)), 0, []⟩,
        ⟨(some 37), none, .p (.lenStr (.tmp 36)), 0, []⟩,
        ⟨(some 38), none, .h (.call (.c (.fn 20 [] [])) [(.tmp 34), (.tmp 35), (.tmp 37)]), 0, []⟩,
        ⟨(some 39), none, .p (.mv (.tmp 1)), 0, []⟩,
        ⟨(some 40), none, .p (.lenStr (.tmp 39)), 0, []⟩,
        ⟨(some 41), none, .p (.mv (.tmp 2)), 0, []⟩,
        ⟨(some 42), none, .p (.lenStr (.tmp 41)), 0, []⟩,
        ⟨(some 43), none, .p (.bin .add (.tmp 40) (.tmp 42)), 0, []⟩,
        ⟨(some 44), none, .h (.call (.c (.fn 20 [] [])) [(.tmp 33), (.tmp 38), (.tmp 43)]), 0, []⟩,
        ⟨(some 11), none, .p (.mv (.tmp 44)), 0, []⟩])
       (.seq
        (.ops [⟨(some 45), none, .h (.call (.c (.fn 12 [] [])) []), 0, []⟩,
         ⟨(some 46), none, .p (.mv (.tmp 45)), 0, []⟩,
         ⟨(some 47), (some (46, true)), .p (.mv (.tmp 10)), 0, []⟩,
         ⟨(some 48), (some (46, true)), .p (.mv (.tmp 11)), 0, []⟩,
         ⟨(some 49), (some (46, true)), .p (.bin .eql (.tmp 47) (.tmp 48)), 0, []⟩,
         ⟨(some 50), none, .p (.pick (.tmp 46) (.tmp 49) (.c (.bool false))), 0, []⟩,
         ⟨(some 51), none, .p (.mv (.tmp 50)), 0, []⟩,
         ⟨(some 52), (some (51, true)), .p (.mv (.tmp 10)), 0, []⟩,
         ⟨(some 53), (some (51, true)), .p (.mv (.tmp 0)), 0, []⟩,
         ⟨(some 54), (some (51, true)), .p (.mv (.tmp 1)), 0, []⟩,
         ⟨(some 55), (some (51, true)), .p (.bin .add (.tmp 53) (.tmp 54)), 0, []⟩,
         ⟨(some 56), (some (51, true)), .p (.mv (.tmp 2)), 0, []⟩,
         ⟨(some 57), (some (51, true)), .p (.bin .add (.tmp 55) (.tmp 56)), 0, []⟩,
         ⟨(some 58), (some (51, true)), .h (.call (.c (.fn 13 [] [])) [(.tmp 57)]), 0, []⟩,
         ⟨(some 59), (some (51, true)), .p (.bin .eql (.tmp 52) (.tmp 58)), 0, []⟩,
         ⟨(some 60), none, .p (.pick (.tmp 51) (.tmp 59) (.c (.bool false))), 0, []⟩,
         ⟨(some 6), none, .p (.mv (.tmp 60)), 0, []⟩])
        .ret))))))⟩
/-- scribe/scribelaw01.Cut -/
def g10 : Mir.Fn := ⟨13, [.tmp 4],
  (.seq
   (.ops [⟨(some 4), none, .p (.mv (.c (.str []))), 0, []⟩])
   (.seq
    (.seq
     (.ops [⟨(some 5), none, .p (.mv (.tmp 0)), 0, []⟩,
      ⟨(some 6), none, .p (.lenStr (.tmp 5)), 0, []⟩,
      ⟨(some 7), none, .p (.mv (.tmp 1)), 0, []⟩,
      ⟨(some 8), none, .p (.bin .gtr (.tmp 6) (.tmp 7)), 0, []⟩])
     (.cond (.tmp 8)
      (.seq
       (.ops [⟨(some 9), none, .p (.mv (.tmp 0)), 0, []⟩,
        ⟨(some 10), none, .p (.mv (.tmp 1)), 0, []⟩,
        ⟨(some 11), none, .p (.subStr (.tmp 9) none (some (.tmp 10))), 0, []⟩,
        ⟨(some 4), none, .p (.mv (.tmp 11)), 0, []⟩])
       .ret)
      .skip))
    (.seq
     (.ops [⟨(some 12), none, .p (.mv (.tmp 0)), 0, []⟩,
      ⟨(some 4), none, .p (.mv (.tmp 12)), 0, []⟩])
     .ret)))⟩
/-- scribe/scriberef02.Of -/
def g11 : Mir.Fn := ⟨28, [.tmp 2],
  (.seq
   (.ops [⟨(some 2), none, .p (.mv (.c (.int .u32 0))), 0, []⟩])
   (.seq
    (.ops [⟨(some 3), none, .p (.mv (.c (.int .u64 1))), 0, []⟩,
     ⟨(some 4), none, .p (.mv (.c (.int .u64 0))), 0, []⟩])
    (.seq
     (.seq
      (.ops [⟨(some 5), none, .p (.mv (.c (.int .i64 0))), 0, []⟩])
      (.block 0
       (.loop
        (.seq
         (.seq
          (.ops [⟨(some 6), none, .p (.mv (.tmp 5)), 0, []⟩,
           ⟨(some 7), none, .p (.mv (.tmp 0)), 0, []⟩,
           ⟨(some 8), none, .p (.lenStr (.tmp 7)), 0, []⟩,
           ⟨(some 9), none, .p (.bin .lss (.tmp 6) (.tmp 8)), 0, []⟩])
          (.cond (.tmp 9)
           .skip
           (.exit 0)))
         (.seq
          (.block 1
           (.seq
            (.ops [⟨(some 12), none, .p (.mv (.tmp 3)), 0, []⟩,
             ⟨(some 13), none, .p (.mv (.tmp 0)), 0, []⟩,
             ⟨(some 14), none, .p (.mv (.tmp 5)), 0, []⟩,
             ⟨(some 15), none, .p (.idxStr (.tmp 13) (.tmp 14)), 0, []⟩,
             ⟨(some 16), none, .p (.convInt .u64 (.tmp 15)), 0, []⟩,
             ⟨(some 17), none, .p (.bin .add (.tmp 12) (.tmp 16)), 0, []⟩,
             ⟨(some 18), none, .p (.bin .rem (.tmp 17) (.c (.int .u64 65521))), 0, []⟩,
             ⟨(some 3), none, .p (.mv (.tmp 18)), 0, []⟩])
            (.ops [⟨(some 19), none, .p (.mv (.tmp 4)), 0, []⟩,
             ⟨(some 20), none, .p (.mv (.tmp 3)), 0, []⟩,
             ⟨(some 21), none, .p (.bin .add (.tmp 19) (.tmp 20)), 0, []⟩,
             ⟨(some 22), none, .p (.bin .rem (.tmp 21) (.c (.int .u64 65521))), 0, []⟩,
             ⟨(some 4), none, .p (.mv (.tmp 22)), 0, []⟩])))
          (.ops [⟨(some 10), none, .p (.mv (.tmp 5)), 0, []⟩,
           ⟨(some 11), none, .p (.bin .add (.tmp 10) (.c (.int .i64 1))), 0, []⟩,
           ⟨(some 5), none, .p (.mv (.tmp 11)), 0, []⟩]))))))
     (.seq
      (.ops [⟨(some 23), none, .p (.mv (.tmp 4)), 0, []⟩,
       ⟨(some 24), none, .p (.bin .mul (.tmp 23) (.c (.int .u64 65536))), 0, []⟩,
       ⟨(some 25), none, .p (.mv (.tmp 3)), 0, []⟩,
       ⟨(some 26), none, .p (.bin .add (.tmp 24) (.tmp 25)), 0, []⟩,
       ⟨(some 27), none, .p (.convInt .u32 (.tmp 26)), 0, []⟩,
       ⟨(some 2), none, .p (.mv (.tmp 27)), 0, []⟩])
      .ret))))⟩
/-- scribe/scribelaw02.awake -/
def g12 : Mir.Fn := ⟨15, [.tmp 0],
  (.seq
   (.ops [⟨(some 0), none, .p (.mv (.c (.bool false))), 0, []⟩])
   (.seq
    (.ops [⟨(some 1), none, .h (.call (.c (.fn 13 [] [])) [(.c (.str [87, 105, 107, 105, 112, 101, 100, 105, 97]))]), 0, []⟩,
     ⟨(some 2), none, .p (.bin .eql (.tmp 1) (.c (.int .u32 300286872))), 0, []⟩,
     ⟨(some 3), none, .p (.mv (.tmp 2)), 0, []⟩,
     ⟨(some 4), (some (3, true)), .h (.call (.c (.fn 13 [] [])) [(.c (.str []))]), 0, []⟩,
     ⟨(some 5), (some (3, true)), .p (.bin .eql (.tmp 4) (.c (.int .u32 1))), 0, []⟩,
     ⟨(some 6), none, .p (.pick (.tmp 3) (.tmp 5) (.c (.bool false))), 0, []⟩,
     ⟨(some 7), none, .p (.mv (.tmp 6)), 0, []⟩,
     ⟨(some 8), (some (7, true)), .h (.call (.c (.fn 16 [] [])) [(.c (.str [49, 49, 101, 54, 48, 51, 57, 56])), (.c (.str [87, 105, 107, 105, 112, 101, 100, 105, 97]))]), 0, []⟩,
     ⟨(some 9), (some (7, true)), .p (.bin .eql (.tmp 8) (.c (.int .i64 0))), 0, []⟩,
     ⟨(some 10), none, .p (.pick (.tmp 7) (.tmp 9) (.c (.bool false))), 0, []⟩,
     ⟨(some 11), none, .p (.mv (.tmp 10)), 0, []⟩,
     ⟨(some 12), (some (11, true)), .h (.call (.c (.fn 16 [] [])) [(.c (.str [49, 49, 101, 54, 48, 51, 57, 56])), (.c (.str [119, 105, 107, 105, 112, 101, 100, 105, 97]))]), 0, []⟩,
     ⟨(some 13), (some (11, true)), .p (.bin .eql (.tmp 12) (.c (.int .i64 4))), 0, []⟩,
     ⟨(some 14), none, .p (.pick (.tmp 11) (.tmp 13) (.c (.bool false))), 0, []⟩,
     ⟨(some 0), none, .p (.mv (.tmp 14)), 0, []⟩])
    .ret))⟩
/-- scribe/sum.Of -/
def g13 : Mir.Fn := ⟨7, [.tmp 2],
  (.seq
   (.ops [⟨(some 2), none, .p (.mv (.c (.int .u32 0))), 0, []⟩])
   (.seq
    (.ops [⟨(some 3), none, .h (.call (.c (.fn 17 [] [])) []), 0, []⟩,
     ⟨(some 4), none, .p (.mv (.tmp 0)), 0, []⟩,
     ⟨(some 5), none, .h (.call (.c (.fn 18 [] [])) [(.tmp 3), (.tmp 4)]), 0, []⟩,
     ⟨(some 6), none, .h (.call (.c (.fn 19 [] [])) [(.tmp 5)]), 0, []⟩,
     ⟨(some 2), none, .p (.mv (.tmp 6)), 0, []⟩])
    .ret))⟩
/-- scribe/sum.Hex -/
def g14 : Mir.Fn := ⟨24, [.tmp 2],
  (.seq
   (.ops [⟨(some 2), none, .p (.mv (.c (.str []))), 0, []⟩])
   (.seq
    (.ops [⟨(some 5), none, .a (.make [(.int .u8 0)] 1 1 (.c (.int .i64 8)) (.c (.int .i64 8))), 0, []⟩,
     ⟨(some 3), none, .p (.mv (.tmp 5)), 0, []⟩])
    (.seq
     (.seq
      (.ops [⟨(some 6), none, .p (.mv (.tmp 3)), 0, []⟩,
       ⟨(some 7), none, .p (.lenSl (.tmp 6)), 0, []⟩,
       ⟨(some 8), none, .p (.mv (.c (.int .i64 0))), 0, []⟩])
      (.block 0
       (.loop
        (.seq
         (.ops [⟨(some 9), none, .p (.bin .lss (.tmp 8) (.tmp 7)), 0, []⟩])
         (.seq
          (.cond (.tmp 9)
           .skip
           (.exit 0))
          (.seq
           (.block 1
            (.seq
             (.ops [⟨(some 10), none, .p (.mv (.tmp 8)), 0, []⟩,
              ⟨(some 4), none, .p (.mv (.tmp 10)), 0, []⟩])
             (.ops [⟨(some 11), none, .p (.mv (.tmp 3)), 0, []⟩,
              ⟨(some 12), none, .p (.mv (.tmp 4)), 0, []⟩,
              ⟨(some 13), none, .p (.mv (.tmp 0)), 0, []⟩,
              ⟨(some 14), none, .p (.mv (.tmp 4)), 0, []⟩,
              ⟨(some 15), none, .p (.bin .mul (.c (.int .i64 4)) (.tmp 14)), 0, []⟩,
              ⟨(some 16), none, .p (.bin .sub (.c (.int .i64 28)) (.tmp 15)), 0, []⟩,
              ⟨(some 17), none, .p (.bin .shr (.tmp 13) (.tmp 16)), 0, []⟩,
              ⟨(some 18), none, .p (.bin .and (.tmp 17) (.c (.int .u32 15))), 0, []⟩,
              ⟨(some 19), none, .p (.idxStr (.c (.str [48, 49, 50, 51, 52, 53, 54, 55, 56, 57, 97, 98, 99, 100, 101, 102])) (.tmp 18)), 0, []⟩,
              ⟨(some 20), none, .p (.idxSl 1 (.tmp 11) (.tmp 12)), 0, []⟩,
              ⟨none, none, .h (.store 1 (.tmp 20) (.tmp 19)), 0, []⟩])))
           (.ops [⟨(some 21), none, .p (.bin .add (.tmp 8) (.c (.int .i64 1))), 0, []⟩,
            ⟨(some 8), none, .p (.mv (.tmp 21)), 0, []⟩])))))))
     (.seq
      (.ops [⟨(some 22), none, .p (.mv (.tmp 3)), 0, []⟩,
       ⟨(some 23), none, .r (.toStr (.tmp 22)), 0, []⟩,
       ⟨(some 2), none, .p (.mv (.tmp 23)), 0, []⟩])
      .ret))))⟩
/-- scribe/scriberef02.Hex -/
def g15 : Mir.Fn := ⟨28, [.tmp 2],
  (.seq
   (.ops [⟨(some 2), none, .p (.mv (.c (.str []))), 0, []⟩])
   (.seq
    (.ops [⟨(some 3), none, .p (.mv (.c (.str []))), 0, []⟩])
    (.seq
     (.seq
      (.ops [⟨(some 4), none, .p (.mv (.c (.int .i64 0))), 0, []⟩])
      (.block 0
       (.loop
        (.seq
         (.seq
          (.ops [⟨(some 7), none, .p (.mv (.tmp 4)), 0, []⟩,
           ⟨(some 8), none, .p (.bin .lss (.tmp 7) (.c (.int .i64 8))), 0, []⟩])
          (.cond (.tmp 8)
           .skip
           (.exit 0)))
         (.seq
          (.block 1
           (.seq
            (.ops [⟨(some 11), none, .p (.mv (.tmp 0)), 0, []⟩,
             ⟨(some 12), none, .p (.bin .rem (.tmp 11) (.c (.int .u32 16))), 0, []⟩,
             ⟨(some 13), none, .p (.convInt .u8 (.tmp 12)), 0, []⟩,
             ⟨(some 5), none, .p (.mv (.tmp 13)), 0, []⟩])
            (.seq
             (.ops [⟨(some 14), none, .p (.mv (.tmp 5)), 0, []⟩,
              ⟨(some 15), none, .p (.bin .add (.c (.int .u8 48)) (.tmp 14)), 0, []⟩,
              ⟨(some 6), none, .p (.mv (.tmp 15)), 0, []⟩])
             (.seq
              (.seq
               (.ops [⟨(some 16), none, .p (.mv (.tmp 5)), 0, []⟩,
                ⟨(some 17), none, .p (.bin .gtr (.tmp 16) (.c (.int .u8 9))), 0, []⟩])
               (.cond (.tmp 17)
                (.ops [⟨(some 18), none, .p (.mv (.tmp 5)), 0, []⟩,
                 ⟨(some 19), none, .p (.bin .add (.c (.int .u8 87)) (.tmp 18)), 0, []⟩,
                 ⟨(some 6), none, .p (.mv (.tmp 19)), 0, []⟩])
                .skip))
              (.seq
               (.ops [⟨(some 20), none, .p (.mv (.tmp 6)), 0, []⟩,
                ⟨(some 21), none, .a (.mkSl [(.int .u8 0)] 1 1 [(0, 1, (.tmp 20))]), 0, []⟩,
                ⟨(some 22), none, .r (.toStr (.tmp 21)), 0, []⟩,
                ⟨(some 23), none, .p (.mv (.tmp 3)), 0, []⟩,
                ⟨(some 24), none, .p (.bin .add (.tmp 22) (.tmp 23)), 0, []⟩,
                ⟨(some 3), none, .p (.mv (.tmp 24)), 0, []⟩])
               (.ops [⟨(some 25), none, .p (.mv (.tmp 0)), 0, []⟩,
                ⟨(some 26), none, .p (.bin .quo (.tmp 25) (.c (.int .u32 16))), 0, []⟩,
                ⟨(some 0), none, .p (.mv (.tmp 26)), 0, []⟩]))))))
          (.ops [⟨(some 9), none, .p (.mv (.tmp 4)), 0, []⟩,
           ⟨(some 10), none, .p (.bin .add (.tmp 9) (.c (.int .i64 1))), 0, []⟩,
           ⟨(some 4), none, .p (.mv (.tmp 10)), 0, []⟩]))))))
     (.seq
      (.ops [⟨(some 27), none, .p (.mv (.tmp 3)), 0, []⟩,
       ⟨(some 2), none, .p (.mv (.tmp 27)), 0, []⟩])
      .ret))))⟩
/-- scribe/sum.Check -/
def g16 : Mir.Fn := ⟨37, [.tmp 4],
  (.seq
   (.ops [⟨(some 4), none, .p (.mv (.c (.int .i64 0))), 0, []⟩])
   (.seq
    (.seq
     (.ops [⟨(some 7), none, .p (.mv (.tmp 0)), 0, []⟩,
      ⟨(some 8), none, .p (.lenStr (.tmp 7)), 0, []⟩,
      ⟨(some 9), none, .p (.bin .neq (.tmp 8) (.c (.int .i64 8))), 0, []⟩])
     (.cond (.tmp 9)
      (.seq
       (.ops [⟨(some 4), none, .p (.mv (.c (.int .i64 3))), 0, []⟩])
       .ret)
      .skip))
    (.seq
     (.seq
      (.ops [⟨(some 10), none, .p (.mv (.tmp 0)), 0, []⟩,
       ⟨(some 11), none, .a (.toBytes (.tmp 10)), 0, []⟩,
       ⟨(some 12), none, .p (.lenSl (.tmp 11)), 0, []⟩,
       ⟨(some 13), none, .p (.mv (.c (.int .i64 0))), 0, []⟩])
      (.block 0
       (.loop
        (.seq
         (.ops [⟨(some 14), none, .p (.bin .lss (.tmp 13) (.tmp 12)), 0, []⟩])
         (.seq
          (.cond (.tmp 14)
           .skip
           (.exit 0))
          (.seq
           (.block 1
            (.seq
             (.ops [⟨(some 15), none, .p (.idxSl 1 (.tmp 11) (.tmp 13)), 0, []⟩,
              ⟨(some 16), none, .r (.load 1 false (.tmp 15)), 0, []⟩,
              ⟨(some 6), none, .p (.mv (.tmp 16)), 0, []⟩])
             (.seq
              (.ops [⟨(some 17), none, .p (.mv (.tmp 6)), 0, []⟩,
               ⟨(some 18), none, .p (.bin .lss (.tmp 17) (.c (.int .u8 48))), 0, []⟩,
               ⟨(some 19), none, .p (.mv (.tmp 18)), 0, []⟩,
               ⟨(some 20), (some (19, false)), .p (.mv (.tmp 6)), 0, []⟩,
               ⟨(some 21), (some (19, false)), .p (.bin .gtr (.tmp 20) (.c (.int .u8 57))), 0, []⟩,
               ⟨(some 22), none, .p (.pick (.tmp 19) (.c (.bool true)) (.tmp 21)), 0, []⟩,
               ⟨(some 23), none, .p (.mv (.tmp 22)), 0, []⟩,
               ⟨(some 24), (some (23, true)), .p (.mv (.tmp 6)), 0, []⟩,
               ⟨(some 25), (some (23, true)), .p (.bin .lss (.tmp 24) (.c (.int .u8 97))), 0, []⟩,
               ⟨(some 26), (some (23, true)), .p (.mv (.tmp 25)), 0, []⟩,
               ⟨(some 27), (some (26, false)), .p (.mv (.tmp 6)), 0, []⟩,
               ⟨(some 28), (some (26, false)), .p (.bin .gtr (.tmp 27) (.c (.int .u8 102))), 0, []⟩,
               ⟨(some 29), (some (23, true)), .p (.pick (.tmp 26) (.c (.bool true)) (.tmp 28)), 0, []⟩,
               ⟨(some 30), none, .p (.pick (.tmp 23) (.tmp 29) (.c (.bool false))), 0, []⟩])
              (.cond (.tmp 30)
               (.seq
                (.ops [⟨(some 4), none, .p (.mv (.c (.int .i64 3))), 0, []⟩])
                .ret)
               .skip))))
           (.ops [⟨(some 31), none, .p (.bin .add (.tmp 13) (.c (.int .i64 1))), 0, []⟩,
            ⟨(some 13), none, .p (.mv (.tmp 31)), 0, []⟩])))))))
     (.seq
      (.seq
       (.ops [⟨(some 32), none, .p (.mv (.tmp 0)), 0, []⟩,
        ⟨(some 33), none, .p (.mv (.tmp 1)), 0, []⟩,
        ⟨(some 34), none, .h (.call (.c (.fn 13 [] [])) [(.tmp 33)]), 0, []⟩,
        ⟨(some 35), none, .h (.call (.c (.fn 14 [] [])) [(.tmp 34)]), 0, []⟩,
        ⟨(some 36), none, .p (.bin .neq (.tmp 32) (.tmp 35)), 0, []⟩])
       (.cond (.tmp 36)
        (.seq
         (.ops [⟨(some 4), none, .p (.mv (.c (.int .i64 4))), 0, []⟩])
         .ret)
        .skip))
      (.seq
       (.ops [⟨(some 4), none, .p (.mv (.c (.int .i64 0))), 0, []⟩])
       .ret)))))⟩
/-- scribe/sum.New -/
def g17 : Mir.Fn := ⟨2, [.cell 0 2 true],
  (.seq
   (.ops [⟨(some 0), none, .a (.alloc [(.int .u32 0), (.int .u32 0)]), 0, []⟩])
   (.seq
    (.ops [⟨(some 1), none, .p (.build [(.int .u32 0), (.int .u32 0)] [(0, 1, (.c (.int .u32 1))), (1, 1, (.c (.int .u32 0)))]), 0, []⟩,
     ⟨none, none, .h (.store 2 (.tmp 0) (.tmp 1)), 0, []⟩])
    .ret))⟩
/-- (scribe/sum.Sum).Add -/
def g18 : Mir.Fn := ⟨48, [.cell 4 2 true],
  (.seq
   (.ops [⟨(some 2), none, .a (.box (.tmp 0)), 0, []⟩,
    ⟨(some 4), none, .a (.alloc [(.int .u32 0), (.int .u32 0)]), 0, []⟩])
   (.seq
    (.block 0
     (.loop
      (.seq
       (.seq
        (.ops [⟨(some 8), none, .p (.mv (.tmp 1)), 0, []⟩,
         ⟨(some 9), none, .p (.lenStr (.tmp 8)), 0, []⟩,
         ⟨(some 10), none, .p (.bin .gtr (.tmp 9) (.c (.int .i64 0))), 0, []⟩])
        (.cond (.tmp 10)
         .skip
         (.exit 0)))
       (.block 1
        (.seq
         (.ops [⟨(some 11), none, .p (.mv (.tmp 1)), 0, []⟩,
          ⟨(some 12), none, .p (.lenStr (.tmp 11)), 0, []⟩,
          ⟨(some 13), none, .p (.mnmx false (.tmp 12) [(.c (.int .i64 3000))]), 0, []⟩,
          ⟨(some 5), none, .p (.mv (.tmp 13)), 0, []⟩])
         (.seq
          (.seq
           (.ops [⟨(some 14), none, .p (.mv (.tmp 1)), 0, []⟩,
            ⟨(some 15), none, .p (.mv (.tmp 5)), 0, []⟩,
            ⟨(some 16), none, .p (.subStr (.tmp 14) none (some (.tmp 15))), 0, []⟩,
            ⟨(some 17), none, .a (.toBytes (.tmp 16)), 0, []⟩,
            ⟨(some 18), none, .p (.lenSl (.tmp 17)), 0, []⟩,
            ⟨(some 19), none, .p (.mv (.c (.int .i64 0))), 0, []⟩])
           (.block 2
            (.loop
             (.seq
              (.ops [⟨(some 20), none, .p (.bin .lss (.tmp 19) (.tmp 18)), 0, []⟩])
              (.seq
               (.cond (.tmp 20)
                .skip
                (.exit 2))
               (.seq
                (.block 3
                 (.seq
                  (.ops [⟨(some 21), none, .p (.idxSl 1 (.tmp 17) (.tmp 19)), 0, []⟩,
                   ⟨(some 22), none, .r (.load 1 false (.tmp 21)), 0, []⟩,
                   ⟨(some 7), none, .p (.mv (.tmp 22)), 0, []⟩])
                  (.seq
                   (.ops [⟨(some 23), none, .p (.fieldAt 0 (.tmp 2)), 0, []⟩,
                    ⟨(some 24), none, .r (.load 1 false (.tmp 23)), 0, []⟩,
                    ⟨(some 25), none, .p (.mv (.tmp 7)), 0, []⟩,
                    ⟨(some 26), none, .p (.convInt .u32 (.tmp 25)), 0, []⟩,
                    ⟨(some 27), none, .p (.bin .add (.tmp 24) (.tmp 26)), 0, []⟩,
                    ⟨(some 28), none, .p (.fieldAt 0 (.tmp 2)), 0, []⟩,
                    ⟨none, none, .h (.store 1 (.tmp 28) (.tmp 27)), 0, []⟩])
                   (.ops [⟨(some 29), none, .p (.fieldAt 1 (.tmp 2)), 0, []⟩,
                    ⟨(some 30), none, .r (.load 1 false (.tmp 29)), 0, []⟩,
                    ⟨(some 31), none, .p (.fieldAt 0 (.tmp 2)), 0, []⟩,
                    ⟨(some 32), none, .r (.load 1 false (.tmp 31)), 0, []⟩,
                    ⟨(some 33), none, .p (.bin .add (.tmp 30) (.tmp 32)), 0, []⟩,
                    ⟨(some 34), none, .p (.fieldAt 1 (.tmp 2)), 0, []⟩,
                    ⟨none, none, .h (.store 1 (.tmp 34) (.tmp 33)), 0, []⟩]))))
                (.ops [⟨(some 35), none, .p (.bin .add (.tmp 19) (.c (.int .i64 1))), 0, []⟩,
                 ⟨(some 19), none, .p (.mv (.tmp 35)), 0, []⟩])))))))
          (.seq
           (.ops [⟨(some 36), none, .p (.fieldAt 0 (.tmp 2)), 0, []⟩,
            ⟨(some 37), none, .r (.load 1 false (.tmp 36)), 0, []⟩,
            ⟨(some 38), none, .p (.bin .rem (.tmp 37) (.c (.int .u32 65521))), 0, []⟩,
            ⟨(some 39), none, .p (.fieldAt 0 (.tmp 2)), 0, []⟩,
            ⟨none, none, .h (.store 1 (.tmp 39) (.tmp 38)), 0, []⟩])
           (.seq
            (.ops [⟨(some 40), none, .p (.fieldAt 1 (.tmp 2)), 0, []⟩,
             ⟨(some 41), none, .r (.load 1 false (.tmp 40)), 0, []⟩,
             ⟨(some 42), none, .p (.bin .rem (.tmp 41) (.c (.int .u32 65521))), 0, []⟩,
             ⟨(some 43), none, .p (.fieldAt 1 (.tmp 2)), 0, []⟩,
             ⟨none, none, .h (.store 1 (.tmp 43) (.tmp 42)), 0, []⟩])
            (.ops [⟨(some 44), none, .p (.mv (.tmp 1)), 0, []⟩,
             ⟨(some 45), none, .p (.mv (.tmp 5)), 0, []⟩,
             ⟨(some 46), none, .p (.subStr (.tmp 44) (some (.tmp 45)) none), 0, []⟩,
             ⟨(some 1), none, .p (.mv (.tmp 46)), 0, []⟩])))))))))
    (.seq
     (.ops [⟨(some 47), none, .r (.load 2 true (.tmp 2)), 0, []⟩,
      ⟨none, none, .h (.store 2 (.tmp 4) (.tmp 47)), 0, []⟩])
     .ret)))⟩
/-- (scribe/sum.Sum).Value -/
def g19 : Mir.Fn := ⟨9, [.tmp 2],
  (.seq
   (.ops [⟨(some 1), none, .a (.box (.tmp 0)), 0, []⟩,
    ⟨(some 2), none, .p (.mv (.c (.int .u32 0))), 0, []⟩])
   (.seq
    (.ops [⟨(some 3), none, .p (.fieldAt 1 (.tmp 1)), 0, []⟩,
     ⟨(some 4), none, .r (.load 1 false (.tmp 3)), 0, []⟩,
     ⟨(some 5), none, .p (.bin .shl (.tmp 4) (.c (.int .u64 16))), 0, []⟩,
     ⟨(some 6), none, .p (.fieldAt 0 (.tmp 1)), 0, []⟩,
     ⟨(some 7), none, .r (.load 1 false (.tmp 6)), 0, []⟩,
     ⟨(some 8), none, .p (.bin .or (.tmp 5) (.tmp 7)), 0, []⟩,
     ⟨(some 2), none, .p (.mv (.tmp 8)), 0, []⟩])
    .ret))⟩
/-- scribe/sum.Join -/
def g20 : Mir.Fn := ⟨54, [.tmp 6],
  (.seq
   (.ops [⟨(some 6), none, .p (.mv (.c (.int .u32 0))), 0, []⟩])
   (.seq
    (.seq
     (.ops [⟨(some 14), none, .p (.mv (.tmp 2)), 0, []⟩,
      ⟨(some 15), none, .p (.bin .lss (.tmp 14) (.c (.int .i64 0))), 0, []⟩])
     (.cond (.tmp 15)
      (.seq
       (.ops [⟨(some 16), none, .p (.mv (.tmp 0)), 0, []⟩,
        ⟨(some 6), none, .p (.mv (.tmp 16)), 0, []⟩])
       .ret)
      .skip))
    (.seq
     (.ops [⟨(some 17), none, .p (.mv (.tmp 2)), 0, []⟩,
      ⟨(some 18), none, .p (.bin .rem (.tmp 17) (.c (.int .i64 65521))), 0, []⟩,
      ⟨(some 19), none, .p (.convInt .u64 (.tmp 18)), 0, []⟩,
      ⟨(some 7), none, .p (.mv (.tmp 19)), 0, []⟩])
     (.seq
      (.ops [⟨(some 20), none, .p (.mv (.tmp 0)), 0, []⟩,
       ⟨(some 21), none, .p (.bin .and (.tmp 20) (.c (.int .u32 65535))), 0, []⟩,
       ⟨(some 22), none, .p (.convInt .u64 (.tmp 21)), 0, []⟩,
       ⟨(some 23), none, .p (.mv (.tmp 0)), 0, []⟩,
       ⟨(some 24), none, .p (.bin .shr (.tmp 23) (.c (.int .u64 16))), 0, []⟩,
       ⟨(some 25), none, .p (.convInt .u64 (.tmp 24)), 0, []⟩,
       ⟨(some 8), none, .p (.mv (.tmp 22)), 0, []⟩,
       ⟨(some 9), none, .p (.mv (.tmp 25)), 0, []⟩])
      (.seq
       (.ops [⟨(some 26), none, .p (.mv (.tmp 1)), 0, []⟩,
        ⟨(some 27), none, .p (.bin .and (.tmp 26) (.c (.int .u32 65535))), 0, []⟩,
        ⟨(some 28), none, .p (.convInt .u64 (.tmp 27)), 0, []⟩,
        ⟨(some 29), none, .p (.mv (.tmp 1)), 0, []⟩,
        ⟨(some 30), none, .p (.bin .shr (.tmp 29) (.c (.int .u64 16))), 0, []⟩,
        ⟨(some 31), none, .p (.convInt .u64 (.tmp 30)), 0, []⟩,
        ⟨(some 10), none, .p (.mv (.tmp 28)), 0, []⟩,
        ⟨(some 11), none, .p (.mv (.tmp 31)), 0, []⟩])
       (.seq
        (.ops [⟨(some 32), none, .p (.mv (.tmp 8)), 0, []⟩,
         ⟨(some 33), none, .p (.mv (.tmp 10)), 0, []⟩,
         ⟨(some 34), none, .p (.bin .add (.tmp 32) (.tmp 33)), 0, []⟩,
         ⟨(some 35), none, .p (.bin .add (.tmp 34) (.c (.int .u64 65521))), 0, []⟩,
         ⟨(some 36), none, .p (.bin .sub (.tmp 35) (.c (.int .u64 1))), 0, []⟩,
         ⟨(some 37), none, .p (.bin .rem (.tmp 36) (.c (.int .u64 65521))), 0, []⟩,
         ⟨(some 12), none, .p (.mv (.tmp 37)), 0, []⟩])
        (.seq
         (.ops [⟨(some 38), none, .p (.mv (.tmp 9)), 0, []⟩,
          ⟨(some 39), none, .p (.mv (.tmp 11)), 0, []⟩,
          ⟨(some 40), none, .p (.bin .add (.tmp 38) (.tmp 39)), 0, []⟩,
          ⟨(some 41), none, .p (.mv (.tmp 7)), 0, []⟩,
          ⟨(some 42), none, .p (.mv (.tmp 8)), 0, []⟩,
          ⟨(some 43), none, .p (.bin .add (.tmp 42) (.c (.int .u64 65521))), 0, []⟩,
          ⟨(some 44), none, .p (.bin .sub (.tmp 43) (.c (.int .u64 1))), 0, []⟩,
          ⟨(some 45), none, .p (.bin .mul (.tmp 41) (.tmp 44)), 0, []⟩,
          ⟨(some 46), none, .p (.bin .add (.tmp 40) (.tmp 45)), 0, []⟩,
          ⟨(some 47), none, .p (.bin .rem (.tmp 46) (.c (.int .u64 65521))), 0, []⟩,
          ⟨(some 13), none, .p (.mv (.tmp 47)), 0, []⟩])
         (.seq
          (.ops [⟨(some 48), none, .p (.mv (.tmp 13)), 0, []⟩,
           ⟨(some 49), none, .p (.convInt .u32 (.tmp 48)), 0, []⟩,
           ⟨(some 50), none, .p (.bin .shl (.tmp 49) (.c (.int .u64 16))), 0, []⟩,
           ⟨(some 51), none, .p (.mv (.tmp 12)), 0, []⟩,
           ⟨(some 52), none, .p (.convInt .u32 (.tmp 51)), 0, []⟩,
           ⟨(some 53), none, .p (.bin .or (.tmp 50) (.tmp 52)), 0, []⟩,
           ⟨(some 6), none, .p (.mv (.tmp 53)), 0, []⟩])
          .ret))))))))⟩
/-- scribe/scriberef02.Join -/
def g21 : Mir.Fn := ⟨46, [.tmp 6],
  (.seq
   (.ops [⟨(some 6), none, .p (.mv (.c (.int .u32 0))), 0, []⟩])
   (.seq
    (.seq
     (.ops [⟨(some 10), none, .p (.mv (.tmp 2)), 0, []⟩,
      ⟨(some 11), none, .p (.bin .lss (.tmp 10) (.c (.int .i64 0))), 0, []⟩])
     (.cond (.tmp 11)
      (.seq
       (.ops [⟨(some 12), none, .p (.mv (.tmp 0)), 0, []⟩,
        ⟨(some 6), none, .p (.mv (.tmp 12)), 0, []⟩])
       .ret)
      .skip))
    (.seq
     (.ops [⟨(some 13), none, .p (.mv (.tmp 0)), 0, []⟩,
      ⟨(some 14), none, .p (.convInt .u64 (.tmp 13)), 0, []⟩,
      ⟨(some 15), none, .p (.bin .rem (.tmp 14) (.c (.int .u64 65536))), 0, []⟩,
      ⟨(some 16), none, .p (.mv (.tmp 1)), 0, []⟩,
      ⟨(some 17), none, .p (.convInt .u64 (.tmp 16)), 0, []⟩,
      ⟨(some 18), none, .p (.bin .rem (.tmp 17) (.c (.int .u64 65536))), 0, []⟩,
      ⟨(some 19), none, .p (.bin .add (.tmp 15) (.tmp 18)), 0, []⟩,
      ⟨(some 20), none, .p (.bin .add (.tmp 19) (.c (.int .u64 65520))), 0, []⟩,
      ⟨(some 21), none, .p (.bin .rem (.tmp 20) (.c (.int .u64 65521))), 0, []⟩,
      ⟨(some 7), none, .p (.mv (.tmp 21)), 0, []⟩])
     (.seq
      (.ops [⟨(some 22), none, .p (.mv (.tmp 2)), 0, []⟩,
       ⟨(some 23), none, .p (.convInt .u64 (.tmp 22)), 0, []⟩,
       ⟨(some 24), none, .p (.bin .rem (.tmp 23) (.c (.int .u64 65521))), 0, []⟩,
       ⟨(some 8), none, .p (.mv (.tmp 24)), 0, []⟩])
      (.seq
       (.ops [⟨(some 25), none, .p (.mv (.tmp 0)), 0, []⟩,
        ⟨(some 26), none, .p (.convInt .u64 (.tmp 25)), 0, []⟩,
        ⟨(some 27), none, .p (.bin .quo (.tmp 26) (.c (.int .u64 65536))), 0, []⟩,
        ⟨(some 28), none, .p (.mv (.tmp 1)), 0, []⟩,
        ⟨(some 29), none, .p (.convInt .u64 (.tmp 28)), 0, []⟩,
        ⟨(some 30), none, .p (.bin .quo (.tmp 29) (.c (.int .u64 65536))), 0, []⟩,
        ⟨(some 31), none, .p (.bin .add (.tmp 27) (.tmp 30)), 0, []⟩,
        ⟨(some 32), none, .p (.mv (.tmp 8)), 0, []⟩,
        ⟨(some 33), none, .p (.mv (.tmp 0)), 0, []⟩,
        ⟨(some 34), none, .p (.convInt .u64 (.tmp 33)), 0, []⟩,
        ⟨(some 35), none, .p (.bin .rem (.tmp 34) (.c (.int .u64 65536))), 0, []⟩,
        ⟨(some 36), none, .p (.bin .add (.tmp 35) (.c (.int .u64 65520))), 0, []⟩,
        ⟨(some 37), none, .p (.bin .rem (.tmp 36) (.c (.int .u64 65521))), 0, []⟩,
        ⟨(some 38), none, .p (.bin .mul (.tmp 32) (.tmp 37)), 0, []⟩,
        ⟨(some 39), none, .p (.bin .add (.tmp 31) (.tmp 38)), 0, []⟩,
        ⟨(some 40), none, .p (.bin .rem (.tmp 39) (.c (.int .u64 65521))), 0, []⟩,
        ⟨(some 9), none, .p (.mv (.tmp 40)), 0, []⟩])
       (.seq
        (.ops [⟨(some 41), none, .p (.mv (.tmp 9)), 0, []⟩,
         ⟨(some 42), none, .p (.bin .mul (.tmp 41) (.c (.int .u64 65536))), 0, []⟩,
         ⟨(some 43), none, .p (.mv (.tmp 7)), 0, []⟩,
         ⟨(some 44), none, .p (.bin .add (.tmp 42) (.tmp 43)), 0, []⟩,
         ⟨(some 45), none, .p (.convInt .u32 (.tmp 44)), 0, []⟩,
         ⟨(some 6), none, .p (.mv (.tmp 45)), 0, []⟩])
        .ret))))))⟩
theorem c3 : Mir.compF Try.prog Try.f3 = some g3 := by kernel_rfl
theorem c4 : Mir.compF Try.prog Try.f4 = some g4 := by kernel_rfl
theorem c5 : Mir.compF Try.prog Try.f5 = some g5 := by kernel_rfl
theorem c6 : Mir.compF Try.prog Try.f6 = some g6 := by kernel_rfl
theorem c7 : Mir.compF Try.prog Try.f7 = some g7 := by kernel_rfl
theorem c8 : Mir.compF Try.prog Try.f8 = some g8 := by kernel_rfl
theorem c9 : Mir.compF Try.prog Try.f9 = some g9 := by kernel_rfl
theorem c10 : Mir.compF Try.prog Try.f10 = some g10 := by kernel_rfl
theorem c11 : Mir.compF Try.prog Try.f11 = some g11 := by kernel_rfl
theorem c12 : Mir.compF Try.prog Try.f12 = some g12 := by kernel_rfl
theorem c13 : Mir.compF Try.prog Try.f13 = some g13 := by kernel_rfl
theorem c14 : Mir.compF Try.prog Try.f14 = some g14 := by kernel_rfl
theorem c15 : Mir.compF Try.prog Try.f15 = some g15 := by kernel_rfl
theorem c16 : Mir.compF Try.prog Try.f16 = some g16 := by kernel_rfl
theorem c17 : Mir.compF Try.prog Try.f17 = some g17 := by kernel_rfl
theorem c18 : Mir.compF Try.prog Try.f18 = some g18 := by kernel_rfl
theorem c19 : Mir.compF Try.prog Try.f19 = some g19 := by kernel_rfl
theorem c20 : Mir.compF Try.prog Try.f20 = some g20 := by kernel_rfl
theorem c21 : Mir.compF Try.prog Try.f21 = some g21 := by kernel_rfl
end Go.Proofs.Ytfenkmaanbgalaa
