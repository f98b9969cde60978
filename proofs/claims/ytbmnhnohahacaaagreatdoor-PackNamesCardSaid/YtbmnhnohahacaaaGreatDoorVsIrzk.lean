import Derived.Test.YtbmnhnohahacaaaGreatDoorVsT
import Derived.Test.YtbmnhnohahacaaaGreatDoorProg
import Derived.KernelRfl
namespace Go.Proofs.Tryzv
open Go.VS

/-- baton/batonlaw24.PackNames -/
def i7 : IFn := ⟨0, 201, [.tmp 0],
 (.seq (.ops [] (.op ⟨(some 0), none, (.p (.val (.con (.bool false))))⟩
  .done))
 (.seq (.seq (.ops [] (.op ⟨(some 17), none, (.call 12 [])⟩
  (.op ⟨(some 18), none, (.p (.un .not (.tmp 17)))⟩
  (.op ⟨(some 19), none, (.p (.val (.tmp 18)))⟩
  (.op ⟨(some 20), none, (.p (.pick (.tmp 19) (.con (.bool true)) (.con (.bool false))))⟩
  (.op ⟨(some 21), none, (.p (.val (.tmp 20)))⟩
  (.op ⟨(some 22), none, (.p (.pick (.tmp 21) (.con (.bool true)) (.con (.bool false))))⟩
  (.op ⟨(some 23), none, (.p (.val (.tmp 22)))⟩
  (.op ⟨(some 24), (some (23, false)), (.call 22 [(.con (.int .u64 9223372036854775808)), (.con (.str [113, 128]))])⟩
  (.op ⟨(some 25), (some (23, false)), (.p (.un .not (.tmp 24)))⟩
  (.op ⟨(some 26), none, (.p (.pick (.tmp 23) (.con (.bool true)) (.tmp 25)))⟩
  (.op ⟨(some 27), none, (.p (.val (.tmp 26)))⟩
  (.op ⟨(some 28), (some (27, false)), (.call 22 [(.con (.int .u64 18446744073709551615)), (.con (.str [8, 255, 255, 255, 255, 255, 255, 255, 255]))])⟩
  (.op ⟨(some 29), (some (27, false)), (.p (.un .not (.tmp 28)))⟩
  (.op ⟨(some 30), none, (.p (.pick (.tmp 27) (.con (.bool true)) (.tmp 29)))⟩
  (.op ⟨(some 31), none, (.p (.val (.tmp 30)))⟩
  (.op ⟨(some 32), (some (31, false)), (.call 22 [(.con (.int .u64 4278255360)), (.con (.str [19, 255, 0, 255]))])⟩
  (.op ⟨(some 33), (some (31, false)), (.p (.un .not (.tmp 32)))⟩
  (.op ⟨(some 34), none, (.p (.pick (.tmp 31) (.con (.bool true)) (.tmp 33)))⟩
  (.op ⟨(some 35), none, (.p (.val (.tmp 34)))⟩
  (.op ⟨(some 36), (some (35, false)), (.call 33 [(.con (.str [])), (.con (.int .i64 8))])⟩
  (.op ⟨(some 37), (some (35, false)), (.p (.un .not (.tmp 36)))⟩
  (.op ⟨(some 38), none, (.p (.pick (.tmp 35) (.con (.bool true)) (.tmp 37)))⟩
  (.op ⟨(some 39), none, (.p (.val (.tmp 38)))⟩
  (.op ⟨(some 40), (some (39, false)), (.call 33 [(.con (.str [16])), (.con (.int .i64 4))])⟩
  (.op ⟨(some 41), (some (39, false)), (.p (.un .not (.tmp 40)))⟩
  (.op ⟨(some 42), none, (.p (.pick (.tmp 39) (.con (.bool true)) (.tmp 41)))⟩
  (.op ⟨(some 43), none, (.p (.val (.tmp 42)))⟩
  (.op ⟨(some 44), (some (43, false)), (.call 33 [(.con (.str [9])), (.con (.int .i64 4))])⟩
  (.op ⟨(some 45), (some (43, false)), (.p (.un .not (.tmp 44)))⟩
  (.op ⟨(some 46), none, (.p (.pick (.tmp 43) (.con (.bool true)) (.tmp 45)))⟩
  (.op ⟨(some 47), none, (.p (.val (.tmp 46)))⟩
  (.op ⟨(some 48), (some (47, false)), (.call 33 [(.con (.str [24, 97, 97, 97, 97, 97, 97, 97, 97])), (.con (.int .i64 4))])⟩
  (.op ⟨(some 49), (some (47, false)), (.p (.un .not (.tmp 48)))⟩
  (.op ⟨(some 50), none, (.p (.pick (.tmp 47) (.con (.bool true)) (.tmp 49)))⟩
  (.op ⟨(some 51), none, (.p (.val (.tmp 50)))⟩
  (.op ⟨(some 52), (some (51, false)), (.call 33 [(.con (.str [129, 97])), (.con (.int .i64 4))])⟩
  (.op ⟨(some 53), (some (51, false)), (.p (.un .not (.tmp 52)))⟩
  (.op ⟨(some 54), none, (.p (.pick (.tmp 51) (.con (.bool true)) (.tmp 53)))⟩
  (.op ⟨(some 55), none, (.p (.val (.tmp 54)))⟩
  (.op ⟨(some 56), (some (55, false)), (.call 33 [(.con (.str [2, 97])), (.con (.int .i64 8))])⟩
  (.op ⟨(some 57), (some (55, false)), (.p (.un .not (.tmp 56)))⟩
  (.op ⟨(some 58), none, (.p (.pick (.tmp 55) (.con (.bool true)) (.tmp 57)))⟩
  (.op ⟨(some 59), none, (.p (.val (.tmp 58)))⟩
  (.op ⟨(some 60), (some (59, false)), (.call 33 [(.con (.str [2, 0, 97])), (.con (.int .i64 4))])⟩
  (.op ⟨(some 61), (some (59, false)), (.p (.un .not (.tmp 60)))⟩
  (.op ⟨(some 62), none, (.p (.pick (.tmp 59) (.con (.bool true)) (.tmp 61)))⟩
  (.op ⟨(some 63), none, (.p (.val (.tmp 62)))⟩
  (.op ⟨(some 64), (some (63, false)), (.call 33 [(.con (.str [2, 97, 0])), (.con (.int .i64 4))])⟩
  (.op ⟨(some 65), (some (63, false)), (.p (.un .not (.tmp 64)))⟩
  (.op ⟨(some 66), none, (.p (.pick (.tmp 63) (.con (.bool true)) (.tmp 65)))⟩
  (.op ⟨(some 67), none, (.p (.val (.tmp 66)))⟩
  (.op ⟨(some 68), (some (67, false)), (.call 33 [(.con (.str [1, 0])), (.con (.int .i64 4))])⟩
  (.op ⟨(some 69), (some (67, false)), (.p (.un .not (.tmp 68)))⟩
  (.op ⟨(some 70), none, (.p (.pick (.tmp 67) (.con (.bool true)) (.tmp 69)))⟩
  .done)))))))))))))))))))))))))))))))))))))))))))))))))))))))
 (.cond (.tmp 70)
 (.seq (.ops [] (.op ⟨(some 0), none, (.p (.val (.con (.bool false))))⟩
  .done))
 .ret)
 .skip))
 (.seq (.ops [] (.op ⟨(some 72), none, (.p (.build [(.str []), (.str []), (.int .i64 0), (.slice true 2 [] .full)] []))⟩
  (.op ⟨(some 73), none, (.call 13 [(.tmp 72)])⟩
  (.op ⟨(some 71), none, (.p (.val (.tmp 73)))⟩
  (.op ⟨(some 74), none, (.p (.ext 0 (.tmp 71)))⟩
  (.op ⟨(some 75), none, (.p (.ext 1 (.tmp 71)))⟩
  (.op ⟨(some 1), none, (.p (.val (.tmp 74)))⟩
  (.op ⟨(some 2), none, (.p (.val (.tmp 75)))⟩
  .done))))))))
 (.seq (.ops [] (.op ⟨(some 77), none, (.call 20 [(.con .nilptr)])⟩
  (.op ⟨(some 76), none, (.p (.val (.tmp 77)))⟩
  (.op ⟨(some 78), none, (.p (.ext 0 (.tmp 76)))⟩
  (.op ⟨(some 79), none, (.p (.ext 1 (.tmp 76)))⟩
  (.op ⟨(some 3), none, (.p (.val (.tmp 78)))⟩
  (.op ⟨(some 4), none, (.p (.val (.tmp 79)))⟩
  .done)))))))
 (.seq (.seq (.ops [] (.op ⟨(some 80), none, (.p (.val (.tmp 2)))⟩
  (.op ⟨(some 81), none, (.p (.bin .neq (.tmp 80) (.con (.int .i64 4))))⟩
  (.op ⟨(some 82), none, (.p (.val (.tmp 81)))⟩
  (.op ⟨(some 83), (some (82, false)), (.p (.val (.tmp 4)))⟩
  (.op ⟨(some 84), (some (82, false)), (.p (.bin .neq (.tmp 83) (.con (.int .i64 2))))⟩
  (.op ⟨(some 85), none, (.p (.pick (.tmp 82) (.con (.bool true)) (.tmp 84)))⟩
  (.op ⟨(some 86), none, (.p (.val (.tmp 85)))⟩
  (.op ⟨(some 87), (some (86, false)), (.call 34 [(.con (.str [])), (.con (.int .i64 8))])⟩
  (.op ⟨(some 88), (some (86, false)), (.p (.un .not (.tmp 87)))⟩
  (.op ⟨(some 89), none, (.p (.pick (.tmp 86) (.con (.bool true)) (.tmp 88)))⟩
  (.op ⟨(some 90), none, (.p (.val (.tmp 89)))⟩
  (.op ⟨(some 91), (some (90, false)), (.call 34 [(.con (.str [25])), (.con (.int .i64 40))])⟩
  (.op ⟨(some 92), (some (90, false)), (.p (.un .not (.tmp 91)))⟩
  (.op ⟨(some 93), none, (.p (.pick (.tmp 90) (.con (.bool true)) (.tmp 92)))⟩
  (.op ⟨(some 94), none, (.p (.val (.tmp 93)))⟩
  (.op ⟨(some 95), (some (94, false)), (.call 34 [(.con (.str [1, 116, 0, 0, 0, 0])), (.con (.int .i64 4))])⟩
  (.op ⟨(some 96), (some (94, false)), (.p (.un .not (.tmp 95)))⟩
  (.op ⟨(some 97), none, (.p (.pick (.tmp 94) (.con (.bool true)) (.tmp 96)))⟩
  (.op ⟨(some 98), none, (.p (.val (.tmp 97)))⟩
  (.op ⟨(some 99), (some (98, false)), (.call 34 [(.con (.str [1, 116, 0, 1, 0])), (.con (.int .i64 4))])⟩
  (.op ⟨(some 100), (some (98, false)), (.p (.un .not (.tmp 99)))⟩
  (.op ⟨(some 101), none, (.p (.pick (.tmp 98) (.con (.bool true)) (.tmp 100)))⟩
  (.op ⟨(some 102), none, (.p (.val (.tmp 101)))⟩
  (.op ⟨(some 103), (some (102, false)), (.call 34 [(.con (.str [1, 116, 0, 0, 1])), (.con (.int .i64 8))])⟩
  (.op ⟨(some 104), (some (102, false)), (.p (.un .not (.tmp 103)))⟩
  (.op ⟨(some 105), none, (.p (.pick (.tmp 102) (.con (.bool true)) (.tmp 104)))⟩
  (.op ⟨(some 106), none, (.p (.val (.tmp 105)))⟩
  (.op ⟨(some 107), (some (106, false)), (.call 34 [(.con (.str [1, 116, 0, 0, 1, 0])), (.con (.int .i64 4))])⟩
  (.op ⟨(some 108), (some (106, false)), (.p (.un .not (.tmp 107)))⟩
  (.op ⟨(some 109), none, (.p (.pick (.tmp 106) (.con (.bool true)) (.tmp 108)))⟩
  (.op ⟨(some 110), none, (.p (.val (.tmp 109)))⟩
  (.op ⟨(some 111), (some (110, false)), (.call 34 [(.con (.str [1, 116, 0, 0, 1, 4, 1, 97, 1, 98])), (.con (.int .i64 8))])⟩
  (.op ⟨(some 112), (some (110, false)), (.p (.un .not (.tmp 111)))⟩
  (.op ⟨(some 113), none, (.p (.pick (.tmp 110) (.con (.bool true)) (.tmp 112)))⟩
  (.op ⟨(some 114), none, (.p (.val (.tmp 113)))⟩
  (.op ⟨(some 115), (some (114, false)), (.call 34 [(.con (.str [1, 116, 0, 0, 1, 4, 1, 97, 2, 98, 0])), (.con (.int .i64 8))])⟩
  (.op ⟨(some 116), (some (114, false)), (.p (.un .not (.tmp 115)))⟩
  (.op ⟨(some 117), none, (.p (.pick (.tmp 114) (.con (.bool true)) (.tmp 116)))⟩
  (.op ⟨(some 118), none, (.p (.val (.tmp 117)))⟩
  (.op ⟨(some 119), (some (118, false)), (.call 34 [(.con (.str [1, 116, 0, 0, 1, 129, 64])), (.con (.int .i64 40))])⟩
  (.op ⟨(some 120), (some (118, false)), (.p (.un .not (.tmp 119)))⟩
  (.op ⟨(some 121), none, (.p (.pick (.tmp 118) (.con (.bool true)) (.tmp 120)))⟩
  (.op ⟨(some 122), none, (.p (.val (.tmp 121)))⟩
  (.op ⟨(some 123), (some (122, false)), (.call 34 [(.con (.str [1, 116, 0, 0, 1, 4, 1, 97, 1, 98, 1, 1, 0])), (.con (.int .i64 4))])⟩
  (.op ⟨(some 124), (some (122, false)), (.p (.un .not (.tmp 123)))⟩
  (.op ⟨(some 125), none, (.p (.pick (.tmp 122) (.con (.bool true)) (.tmp 124)))⟩
  (.op ⟨(some 126), none, (.p (.val (.tmp 125)))⟩
  (.op ⟨(some 127), (some (126, false)), (.call 34 [(.con (.str [1, 116, 0, 0, 1, 4, 1, 97, 1, 98, 1, 0, 16])), (.con (.int .i64 4))])⟩
  (.op ⟨(some 128), (some (126, false)), (.p (.un .not (.tmp 127)))⟩
  (.op ⟨(some 129), none, (.p (.pick (.tmp 126) (.con (.bool true)) (.tmp 128)))⟩
  (.op ⟨(some 130), none, (.p (.val (.tmp 129)))⟩
  (.op ⟨(some 131), (some (130, false)), (.call 34 [(.con (.str [1, 116, 0, 0, 1, 4, 1, 97, 1, 98, 1, 130, 128, 128, 128, 128, 128, 128, 4, 0])), (.con (.int .i64 40))])⟩
  (.op ⟨(some 132), (some (130, false)), (.p (.un .not (.tmp 131)))⟩
  (.op ⟨(some 133), none, (.p (.pick (.tmp 130) (.con (.bool true)) (.tmp 132)))⟩
  .done)))))))))))))))))))))))))))))))))))))))))))))))))))))))
 (.cond (.tmp 133)
 (.seq (.ops [] (.op ⟨(some 0), none, (.p (.val (.con (.bool false))))⟩
  .done))
 .ret)
 .skip))
 (.seq (.ops [] (.op ⟨(some 135), none, (.p (.mks 1 [(.con (.int .i64 1125899906842624)), (.con (.int .i64 1)), (.con (.int .i64 0)), (.con (.int .i64 (-1)))]))⟩
  (.op ⟨(some 136), none, (.call 25 [(.tmp 135)])⟩
  (.op ⟨(some 137), none, (.call 13 [(.tmp 136)])⟩
  (.op ⟨(some 134), none, (.p (.val (.tmp 137)))⟩
  (.op ⟨(some 138), none, (.p (.ext 0 (.tmp 134)))⟩
  (.op ⟨(some 139), none, (.p (.ext 1 (.tmp 134)))⟩
  (.op ⟨(some 5), none, (.p (.val (.tmp 138)))⟩
  (.op ⟨(some 6), none, (.p (.val (.tmp 139)))⟩
  .done)))))))))
 (.seq (.ops [] (.op ⟨(some 141), none, (.p (.val (.tmp 5)))⟩
  (.op ⟨(some 142), none, (.call 23 [(.tmp 141)])⟩
  (.op ⟨(some 140), none, (.p (.val (.tmp 142)))⟩
  (.op ⟨(some 143), none, (.p (.ext 0 (.tmp 140)))⟩
  (.op ⟨(some 144), none, (.p (.ext 1 (.tmp 140)))⟩
  (.op ⟨(some 7), none, (.alloc [(.str []), (.str []), (.int .i64 0), (.slice true 2 [] .full)])⟩
  (.op ⟨(some 7), none, (.storef 7 4 (.tmp 143))⟩
  (.op ⟨(some 8), none, (.p (.val (.tmp 144)))⟩
  .done)))))))))
 (.seq (.seq (.ops [] (.op ⟨(some 145), none, (.p (.val (.tmp 6)))⟩
  (.op ⟨(some 146), none, (.p (.bin .neq (.tmp 145) (.con (.int .i64 0))))⟩
  (.op ⟨(some 147), none, (.p (.val (.tmp 146)))⟩
  (.op ⟨(some 148), (some (147, false)), (.p (.val (.tmp 8)))⟩
  (.op ⟨(some 149), (some (147, false)), (.p (.bin .neq (.tmp 148) (.con (.int .i64 0))))⟩
  (.op ⟨(some 150), none, (.p (.pick (.tmp 147) (.con (.bool true)) (.tmp 149)))⟩
  (.op ⟨(some 151), none, (.p (.val (.tmp 150)))⟩
  (.op ⟨(some 152), (some (151, false)), (.p (.loadi true 4 (.tmp 7)))⟩
  (.op ⟨(some 153), (some (151, false)), (.p (.mks 1 [(.con (.int .i64 1125899906842624)), (.con (.int .i64 1)), (.con (.int .i64 0)), (.con (.int .i64 (-1)))]))⟩
  (.op ⟨(some 154), (some (151, false)), (.call 25 [(.tmp 153)])⟩
  (.op ⟨(some 155), (some (151, false)), (.call 24 [(.tmp 152), (.tmp 154)])⟩
  (.op ⟨(some 156), (some (151, false)), (.p (.un .not (.tmp 155)))⟩
  (.op ⟨(some 157), none, (.p (.pick (.tmp 151) (.con (.bool true)) (.tmp 156)))⟩
  .done))))))))))))))
 (.cond (.tmp 157)
 (.seq (.ops [] (.op ⟨(some 0), none, (.p (.val (.con (.bool false))))⟩
  .done))
 .ret)
 .skip))
 (.seq (.ops [] (.op ⟨(some 159), none, (.call 28 [(.con (.str [97, 98, 99]))])⟩
  (.op ⟨(some 158), none, (.p (.val (.tmp 159)))⟩
  (.op ⟨(some 160), none, (.p (.ext 0 (.tmp 158)))⟩
  (.op ⟨(some 161), none, (.p (.ext 1 (.tmp 158)))⟩
  (.op ⟨(some 9), none, (.p (.val (.tmp 160)))⟩
  (.op ⟨(some 10), none, (.p (.val (.tmp 161)))⟩
  .done)))))))
 (.seq (.ops [] (.op ⟨(some 163), none, (.call 28 [(.con (.str [97, 98, 99, 100]))])⟩
  (.op ⟨(some 162), none, (.p (.val (.tmp 163)))⟩
  (.op ⟨(some 164), none, (.p (.ext 0 (.tmp 162)))⟩
  (.op ⟨(some 165), none, (.p (.ext 1 (.tmp 162)))⟩
  (.op ⟨(some 11), none, (.p (.val (.tmp 164)))⟩
  (.op ⟨(some 12), none, (.p (.val (.tmp 165)))⟩
  .done)))))))
 (.seq (.ops [] (.op ⟨(some 167), none, (.call 35 [])⟩
  (.op ⟨(some 168), none, (.p (.sls (.tmp 167) none (some (.con (.int .i64 5)))))⟩
  (.op ⟨(some 169), none, (.call 28 [(.tmp 168)])⟩
  (.op ⟨(some 166), none, (.p (.val (.tmp 169)))⟩
  (.op ⟨(some 170), none, (.p (.ext 0 (.tmp 166)))⟩
  (.op ⟨(some 171), none, (.p (.ext 1 (.tmp 166)))⟩
  (.op ⟨(some 13), none, (.p (.val (.tmp 170)))⟩
  (.op ⟨(some 14), none, (.p (.val (.tmp 171)))⟩
  .done)))))))))
 (.seq (.ops [] (.op ⟨(some 173), none, (.call 35 [])⟩
  (.op ⟨(some 174), none, (.call 28 [(.tmp 173)])⟩
  (.op ⟨(some 172), none, (.p (.val (.tmp 174)))⟩
  (.op ⟨(some 175), none, (.p (.ext 0 (.tmp 172)))⟩
  (.op ⟨(some 176), none, (.p (.ext 1 (.tmp 172)))⟩
  (.op ⟨(some 15), none, (.p (.val (.tmp 175)))⟩
  (.op ⟨(some 16), none, (.p (.val (.tmp 176)))⟩
  .done))))))))
 (.seq (.ops [] (.op ⟨(some 177), none, (.p (.val (.tmp 10)))⟩
  (.op ⟨(some 178), none, (.p (.bin .eql (.tmp 177) (.con (.int .i64 8))))⟩
  (.op ⟨(some 179), none, (.p (.val (.tmp 178)))⟩
  (.op ⟨(some 180), (some (179, true)), (.p (.val (.tmp 12)))⟩
  (.op ⟨(some 181), (some (179, true)), (.p (.bin .eql (.tmp 180) (.con (.int .i64 42))))⟩
  (.op ⟨(some 182), none, (.p (.pick (.tmp 179) (.tmp 181) (.con (.bool false))))⟩
  (.op ⟨(some 183), none, (.p (.val (.tmp 182)))⟩
  (.op ⟨(some 184), (some (183, true)), (.p (.val (.tmp 14)))⟩
  (.op ⟨(some 185), (some (183, true)), (.p (.bin .eql (.tmp 184) (.con (.int .i64 42))))⟩
  (.op ⟨(some 186), none, (.p (.pick (.tmp 183) (.tmp 185) (.con (.bool false))))⟩
  (.op ⟨(some 187), none, (.p (.val (.tmp 186)))⟩
  (.op ⟨(some 188), (some (187, true)), (.p (.val (.tmp 16)))⟩
  (.op ⟨(some 189), (some (187, true)), (.p (.bin .eql (.tmp 188) (.con (.int .i64 0))))⟩
  (.op ⟨(some 190), none, (.p (.pick (.tmp 187) (.tmp 189) (.con (.bool false))))⟩
  (.op ⟨(some 191), none, (.p (.val (.tmp 190)))⟩
  (.op ⟨(some 192), (some (191, true)), (.p (.val (.tmp 15)))⟩
  (.op ⟨(some 193), (some (191, true)), (.call 17 [])⟩
  (.op ⟨(some 194), (some (191, true)), (.call 36 [(.tmp 192), (.tmp 193)])⟩
  (.op ⟨(some 195), none, (.p (.pick (.tmp 191) (.tmp 194) (.con (.bool false))))⟩
  (.op ⟨(some 196), none, (.p (.val (.tmp 195)))⟩
  (.op ⟨(some 197), (some (196, true)), (.call 35 [])⟩
  (.op ⟨(some 198), (some (196, true)), (.p (.bin .add (.tmp 197) (.con (.str [120]))))⟩
  (.op ⟨(some 199), (some (196, true)), (.call 37 [(.tmp 198)])⟩
  (.op ⟨(some 200), none, (.p (.pick (.tmp 196) (.tmp 199) (.con (.bool false))))⟩
  (.op ⟨(some 0), none, (.p (.val (.tmp 200)))⟩
  .done))))))))))))))))))))))))))
 .ret)))))))))))))⟩
theorem i7_is : compFunc Tryz.prog ⟨[7], [], [7]⟩ [] 7 = some i7 := by kernel_rfl

/-- baton/batonlaw24.awake -/
def i12 : IFn := ⟨0, 55, [.tmp 0],
 (.seq (.ops [] (.op ⟨(some 0), none, (.p (.val (.con (.bool false))))⟩
  .done))
 (.seq (.ops [] (.op ⟨(some 8), none, (.p (.mks 1 [(.con (.int .i64 10)), (.con (.int .i64 5)), (.con (.int .i64 20)), (.con (.int .i64 5))]))⟩
  (.op ⟨(some 9), none, (.call 25 [(.tmp 8)])⟩
  (.op ⟨(some 10), none, (.call 13 [(.tmp 9)])⟩
  (.op ⟨(some 7), none, (.p (.val (.tmp 10)))⟩
  (.op ⟨(some 11), none, (.p (.ext 0 (.tmp 7)))⟩
  (.op ⟨(some 12), none, (.p (.ext 1 (.tmp 7)))⟩
  (.op ⟨(some 1), none, (.p (.val (.tmp 11)))⟩
  (.op ⟨(some 2), none, (.p (.val (.tmp 12)))⟩
  .done)))))))))
 (.seq (.ops [] (.op ⟨(some 14), none, (.p (.build [(.str []), (.str []), (.int .i64 0), (.slice true 2 [] .full)] [(0, 1, (.con (.str [116])))]))⟩
  (.op ⟨(some 15), none, (.call 13 [(.tmp 14)])⟩
  (.op ⟨(some 13), none, (.p (.val (.tmp 15)))⟩
  (.op ⟨(some 16), none, (.p (.ext 0 (.tmp 13)))⟩
  (.op ⟨(some 17), none, (.p (.ext 1 (.tmp 13)))⟩
  (.op ⟨(some 3), none, (.p (.val (.tmp 16)))⟩
  (.op ⟨(some 4), none, (.p (.val (.tmp 17)))⟩
  .done))))))))
 (.seq (.ops [] (.op ⟨(some 19), none, (.call 17 [])⟩
  (.op ⟨(some 20), none, (.call 20 [(.tmp 19)])⟩
  (.op ⟨(some 18), none, (.p (.val (.tmp 20)))⟩
  (.op ⟨(some 21), none, (.p (.ext 0 (.tmp 18)))⟩
  (.op ⟨(some 22), none, (.p (.ext 1 (.tmp 18)))⟩
  (.op ⟨(some 5), none, (.p (.val (.tmp 21)))⟩
  (.op ⟨(some 6), none, (.p (.val (.tmp 22)))⟩
  .done))))))))
 (.seq (.ops [] (.op ⟨(some 23), none, (.call 22 [(.con (.int .u64 0)), (.con (.str [0]))])⟩
  (.op ⟨(some 24), none, (.p (.val (.tmp 23)))⟩
  (.op ⟨(some 25), (some (24, true)), (.call 22 [(.con (.int .u64 258)), (.con (.str [2, 2, 1]))])⟩
  (.op ⟨(some 26), none, (.p (.pick (.tmp 24) (.tmp 25) (.con (.bool false))))⟩
  (.op ⟨(some 27), none, (.p (.val (.tmp 26)))⟩
  (.op ⟨(some 28), (some (27, true)), (.call 22 [(.con (.int .u64 65536)), (.con (.str [33, 1]))])⟩
  (.op ⟨(some 29), none, (.p (.pick (.tmp 27) (.tmp 28) (.con (.bool false))))⟩
  (.op ⟨(some 30), none, (.p (.val (.tmp 29)))⟩
  (.op ⟨(some 31), (some (30, true)), (.p (.val (.tmp 2)))⟩
  (.op ⟨(some 32), (some (30, true)), (.p (.bin .eql (.tmp 31) (.con (.int .i64 0))))⟩
  (.op ⟨(some 33), none, (.p (.pick (.tmp 30) (.tmp 32) (.con (.bool false))))⟩
  (.op ⟨(some 34), none, (.p (.val (.tmp 33)))⟩
  (.op ⟨(some 35), (some (34, true)), (.p (.val (.tmp 1)))⟩
  (.op ⟨(some 36), (some (34, true)), (.p (.bin .eql (.tmp 35) (.con (.str [1, 116, 1, 120, 2, 1, 4, 1, 97, 1, 98, 2, 20, 1, 5, 20, 0]))))⟩
  (.op ⟨(some 37), none, (.p (.pick (.tmp 34) (.tmp 36) (.con (.bool false))))⟩
  (.op ⟨(some 38), none, (.p (.val (.tmp 37)))⟩
  (.op ⟨(some 39), (some (38, true)), (.p (.val (.tmp 4)))⟩
  (.op ⟨(some 40), (some (38, true)), (.p (.bin .eql (.tmp 39) (.con (.int .i64 0))))⟩
  (.op ⟨(some 41), none, (.p (.pick (.tmp 38) (.tmp 40) (.con (.bool false))))⟩
  (.op ⟨(some 42), none, (.p (.val (.tmp 41)))⟩
  (.op ⟨(some 43), (some (42, true)), (.p (.val (.tmp 3)))⟩
  (.op ⟨(some 44), (some (42, true)), (.p (.bin .eql (.tmp 43) (.con (.str [1, 116, 0, 0, 0]))))⟩
  (.op ⟨(some 45), none, (.p (.pick (.tmp 42) (.tmp 44) (.con (.bool false))))⟩
  (.op ⟨(some 46), none, (.p (.val (.tmp 45)))⟩
  (.op ⟨(some 47), (some (46, true)), (.p (.val (.tmp 6)))⟩
  (.op ⟨(some 48), (some (46, true)), (.p (.bin .eql (.tmp 47) (.con (.int .i64 0))))⟩
  (.op ⟨(some 49), none, (.p (.pick (.tmp 46) (.tmp 48) (.con (.bool false))))⟩
  (.op ⟨(some 50), none, (.p (.val (.tmp 49)))⟩
  (.op ⟨(some 51), (some (50, true)), (.p (.val (.tmp 5)))⟩
  (.op ⟨(some 52), (some (50, true)), (.call 35 [])⟩
  (.op ⟨(some 53), (some (50, true)), (.p (.bin .eql (.tmp 51) (.tmp 52)))⟩
  (.op ⟨(some 54), none, (.p (.pick (.tmp 50) (.tmp 53) (.con (.bool false))))⟩
  (.op ⟨(some 0), none, (.p (.val (.tmp 54)))⟩
  .done))))))))))))))))))))))))))))))))))
 .ret)))))⟩
theorem i12_is : compFunc Tryz.prog ⟨[], [], []⟩ [] 12 = some i12 := by kernel_rfl

/-- baton/pack.PutBatch -/
def i13 : IFn := ⟨1, 40, [.tmp 2, .tmp 3],
 (.seq (.ops [] (.op ⟨(some 1), none, (.p (.boxi (.tmp 0)))⟩
  (.op ⟨(some 2), none, (.p (.val (.con (.str []))))⟩
  (.op ⟨(some 3), none, (.p (.val (.con (.int .i64 0))))⟩
  .done))))
 (.seq (.seq (.ops [] (.op ⟨(some 7), none, (.p (.loadi true 4 (.tmp 1)))⟩
  (.op ⟨(some 8), none, (.call 41 [(.tmp 7)])⟩
  (.op ⟨(some 9), none, (.p (.un .not (.tmp 8)))⟩
  .done))))
 (.cond (.tmp 9)
 (.seq (.ops [] (.op ⟨(some 2), none, (.p (.val (.con (.str []))))⟩
  (.op ⟨(some 3), none, (.p (.val (.con (.int .i64 4))))⟩
  .done)))
 .ret)
 .skip))
 (.seq (.ops [] (.op ⟨(some 10), none, (.p (.faddr 0 (.tmp 1)))⟩
  (.op ⟨(some 11), none, (.p (.loadi false 1 (.tmp 10)))⟩
  (.op ⟨(some 13), none, (.p (.faddr 1 (.tmp 1)))⟩
  (.op ⟨(some 14), none, (.p (.loadi false 1 (.tmp 13)))⟩
  (.op ⟨(some 12), none, (.call 42 [(.con (.slice true 1 [] .full)), (.tmp 11)])⟩
  (.op ⟨(some 15), none, (.call 42 [(.tmp 12), (.tmp 14)])⟩
  (.op ⟨(some 4), none, (.p (.val (.tmp 15)))⟩
  .done))))))))
 (.seq (.ops [] (.op ⟨(some 16), none, (.p (.val (.tmp 4)))⟩
  (.op ⟨(some 17), none, (.p (.faddr 2 (.tmp 1)))⟩
  (.op ⟨(some 18), none, (.p (.loadi false 1 (.tmp 17)))⟩
  (.op ⟨(some 19), none, (.p (.cvi .u64 (.tmp 18)))⟩
  (.op ⟨(some 20), none, (.call 43 [(.tmp 16), (.tmp 19)])⟩
  (.op ⟨(some 4), none, (.p (.val (.tmp 20)))⟩
  .done)))))))
 (.seq (.ops [] (.op ⟨(some 21), none, (.p (.val (.tmp 4)))⟩
  (.op ⟨(some 22), none, (.p (.faddr 3 (.tmp 1)))⟩
  (.op ⟨(some 23), none, (.p (.loadi false 1 (.tmp 22)))⟩
  (.op ⟨(some 24), none, (.p (.lenl (.tmp 23)))⟩
  (.op ⟨(some 25), none, (.p (.cvi .u64 (.tmp 24)))⟩
  (.op ⟨(some 26), none, (.call 43 [(.tmp 21), (.tmp 25)])⟩
  (.op ⟨(some 4), none, (.p (.val (.tmp 26)))⟩
  .done))))))))
 (.seq (.seq (.ops [] (.op ⟨(some 27), none, (.p (.faddr 3 (.tmp 1)))⟩
  (.op ⟨(some 28), none, (.p (.loadi false 1 (.tmp 27)))⟩
  (.op ⟨(some 29), none, (.p (.lenl (.tmp 28)))⟩
  (.op ⟨(some 30), none, (.p (.val (.con (.int .i64 0))))⟩
  .done)))))
 (.block 0 (.loop (.seq (.ops [] (.op ⟨(some 31), none, (.p (.bin .lss (.tmp 30) (.tmp 29)))⟩
  .done))
 (.seq (.cond (.tmp 31)
 .skip
 (.exit 0))
 (.seq (.block 1 (.seq (.ops [] (.op ⟨(some 32), none, (.p (.iaddr 2 (.tmp 28) (.tmp 30)))⟩
  (.op ⟨(some 33), none, (.p (.loadi true 2 (.tmp 32)))⟩
  (.op ⟨(some 6), none, (.alloc [(.slice true 2 [] .full), (.slice true 2 [] .full)])⟩
  (.op ⟨(some 6), none, (.storef 6 2 (.tmp 33))⟩
  .done)))))
 (.ops [] (.op ⟨(some 34), none, (.p (.val (.tmp 4)))⟩
  (.op ⟨(some 35), none, (.p (.loadi true 2 (.tmp 6)))⟩
  (.op ⟨(some 36), none, (.call 44 [(.tmp 34), (.tmp 35)])⟩
  (.op ⟨(some 4), none, (.p (.val (.tmp 36)))⟩
  .done)))))))
 (.ops [] (.op ⟨(some 37), none, (.p (.bin .add (.tmp 30) (.con (.int .i64 1))))⟩
  (.op ⟨(some 30), none, (.p (.val (.tmp 37)))⟩
  .done)))))))))
 (.seq (.ops [] (.op ⟨(some 38), none, (.p (.val (.tmp 4)))⟩
  (.op ⟨(some 39), none, (.p (.cvbs (.tmp 38)))⟩
  (.op ⟨(some 2), none, (.p (.val (.tmp 39)))⟩
  (.op ⟨(some 3), none, (.p (.val (.con (.int .i64 0))))⟩
  .done)))))
 .ret)))))))⟩
theorem i13_is : compFunc Tryz.prog ⟨[6], [1], [6, 1, 10, 13, 17, 22, 27, 32]⟩ [] 13 = some i13 := by kernel_rfl

/-- baton/pack.PutWord -/
def i15 : IFn := ⟨2, 42, [.tmp 4],
 (.seq (.ops [] (.op ⟨(some 4), none, (.p (.val (.con (.slice true 1 [] .full))))⟩
  .done))
 (.seq (.seq (.ops [] (.op ⟨(some 7), none, (.p (.val (.tmp 1)))⟩
  (.op ⟨(some 8), none, (.p (.bin .eql (.tmp 7) (.con (.int .u64 0))))⟩
  .done)))
 (.cond (.tmp 8)
 (.seq (.ops [] (.op ⟨(some 9), none, (.p (.val (.tmp 0)))⟩
  (.op ⟨(some 10), none, (.p (.mks 1 [(.con (.int .u8 0))]))⟩
  (.op ⟨(some 11), none, (.append 1 1 (.tmp 9) (.tmp 10))⟩
  (.op ⟨(some 4), none, (.p (.val (.tmp 11)))⟩
  .done)))))
 .ret)
 .skip))
 (.seq (.ops [] (.op ⟨(some 12), none, (.p (.val (.tmp 1)))⟩
  (.op ⟨(some 13), none, (.call 49 [(.tmp 12)])⟩
  (.op ⟨(some 14), none, (.p (.bin .quo (.tmp 13) (.con (.int .i64 8))))⟩
  (.op ⟨(some 5), none, (.p (.val (.tmp 14)))⟩
  .done)))))
 (.seq (.ops [] (.op ⟨(some 15), none, (.p (.val (.tmp 1)))⟩
  (.op ⟨(some 16), none, (.p (.val (.tmp 5)))⟩
  (.op ⟨(some 17), none, (.p (.bin .mul (.tmp 16) (.con (.int .i64 8))))⟩
  (.op ⟨(some 18), none, (.p (.bin .shr (.tmp 15) (.tmp 17)))⟩
  (.op ⟨(some 1), none, (.p (.val (.tmp 18)))⟩
  .done))))))
 (.seq (.ops [] (.op ⟨(some 19), none, (.p (.val (.tmp 1)))⟩
  (.op ⟨(some 20), none, (.call 50 [(.tmp 19)])⟩
  (.op ⟨(some 21), none, (.p (.bin .add (.tmp 20) (.con (.int .i64 8))))⟩
  (.op ⟨(some 22), none, (.p (.bin .sub (.tmp 21) (.con (.int .i64 1))))⟩
  (.op ⟨(some 23), none, (.p (.bin .quo (.tmp 22) (.con (.int .i64 8))))⟩
  (.op ⟨(some 6), none, (.p (.val (.tmp 23)))⟩
  .done)))))))
 (.seq (.ops [] (.op ⟨(some 24), none, (.p (.val (.tmp 0)))⟩
  (.op ⟨(some 25), none, (.p (.val (.tmp 5)))⟩
  (.op ⟨(some 26), none, (.p (.bin .shl (.tmp 25) (.con (.int .u64 4))))⟩
  (.op ⟨(some 27), none, (.p (.val (.tmp 6)))⟩
  (.op ⟨(some 28), none, (.p (.bin .or (.tmp 26) (.tmp 27)))⟩
  (.op ⟨(some 29), none, (.p (.cvi .u8 (.tmp 28)))⟩
  (.op ⟨(some 30), none, (.p (.mks 1 [(.tmp 29)]))⟩
  (.op ⟨(some 31), none, (.append 1 1 (.tmp 24) (.tmp 30))⟩
  (.op ⟨(some 0), none, (.p (.val (.tmp 31)))⟩
  .done))))))))))
 (.seq (.block 0 (.loop (.seq (.seq (.ops [] (.op ⟨(some 32), none, (.p (.val (.tmp 1)))⟩
  (.op ⟨(some 33), none, (.p (.bin .gtr (.tmp 32) (.con (.int .u64 0))))⟩
  .done)))
 (.cond (.tmp 33)
 .skip
 (.exit 0)))
 (.seq (.block 1 (.ops [] (.op ⟨(some 36), none, (.p (.val (.tmp 0)))⟩
  (.op ⟨(some 37), none, (.p (.val (.tmp 1)))⟩
  (.op ⟨(some 38), none, (.p (.cvi .u8 (.tmp 37)))⟩
  (.op ⟨(some 39), none, (.p (.mks 1 [(.tmp 38)]))⟩
  (.op ⟨(some 40), none, (.append 1 1 (.tmp 36) (.tmp 39))⟩
  (.op ⟨(some 0), none, (.p (.val (.tmp 40)))⟩
  .done))))))))
 (.ops [] (.op ⟨(some 34), none, (.p (.val (.tmp 1)))⟩
  (.op ⟨(some 35), none, (.p (.bin .shr (.tmp 34) (.con (.int .u64 8))))⟩
  (.op ⟨(some 1), none, (.p (.val (.tmp 35)))⟩
  .done))))))))
 (.seq (.ops [] (.op ⟨(some 41), none, (.p (.val (.tmp 0)))⟩
  (.op ⟨(some 4), none, (.p (.val (.tmp 41)))⟩
  .done)))
 .ret))))))))⟩
theorem i15_is : compFunc Tryz.prog ⟨[], [], []⟩ [] 15 = some i15 := by kernel_rfl

/-- baton/fence.New -/
def i17 : IFn := ⟨0, 5, [.tmp 0],
 (.seq (.ops [] (.op ⟨(some 0), none, (.p (.val (.con .nilptr)))⟩
  .done))
 (.seq (.ops [] (.op ⟨(some 1), none, .mkmap⟩
  (.op ⟨(some 2), none, .mkmap⟩
  (.op ⟨(some 3), none, (.p (.build [.nilmap, .nilmap] [(0, 1, (.tmp 1)), (1, 1, (.tmp 2))]))⟩
  (.op ⟨(some 4), none, (.p (.boxi (.tmp 3)))⟩
  (.op ⟨(some 0), none, (.p (.val (.tmp 4)))⟩
  .done))))))
 .ret))⟩
theorem i17_is : compFunc Tryz.prog ⟨[], [4], [4]⟩ [] 17 = some i17 := by kernel_rfl

/-- baton/pack.PutState -/
def i20 : IFn := ⟨1, 67, [.tmp 2, .tmp 3],
 (.seq (.ops [] (.op ⟨(some 2), none, (.p (.val (.con (.str []))))⟩
  (.op ⟨(some 3), none, (.p (.val (.con (.int .i64 0))))⟩
  .done)))
 (.seq (.seq (.ops [] (.op ⟨(some 11), none, (.p (.val (.tmp 0)))⟩
  (.op ⟨(some 12), none, (.p (.eqn .p false (.tmp 11) (.con .nilptr)))⟩
  .done)))
 (.cond (.tmp 12)
 (.seq (.ops [] (.op ⟨(some 2), none, (.p (.val (.con (.str []))))⟩
  (.op ⟨(some 3), none, (.p (.val (.con (.int .i64 2))))⟩
  .done)))
 .ret)
 .skip))
 (.seq (.ops [] (.op ⟨(some 13), none, (.p (.val (.tmp 0)))⟩
  (.op ⟨(some 14), none, (.call 57 [(.tmp 13)])⟩
  (.op ⟨(some 15), none, (.p (.val (.tmp 0)))⟩
  (.op ⟨(some 16), none, (.call 38 [(.tmp 15)])⟩
  (.op ⟨(some 4), none, (.p (.val (.tmp 14)))⟩
  (.op ⟨(some 5), none, (.p (.val (.tmp 16)))⟩
  .done)))))))
 (.seq (.ops [] (.op ⟨(some 17), none, (.p (.val (.tmp 4)))⟩
  (.op ⟨(some 18), none, (.p (.lenl (.tmp 17)))⟩
  (.op ⟨(some 19), none, (.p (.cvi .u64 (.tmp 18)))⟩
  (.op ⟨(some 20), none, (.call 43 [(.con (.slice true 1 [] .full)), (.tmp 19)])⟩
  (.op ⟨(some 6), none, (.p (.val (.tmp 20)))⟩
  .done))))))
 (.seq (.seq (.ops [] (.op ⟨(some 21), none, (.p (.val (.tmp 4)))⟩
  (.op ⟨(some 22), none, (.p (.lenl (.tmp 21)))⟩
  (.op ⟨(some 23), none, (.p (.val (.con (.int .i64 0))))⟩
  .done))))
 (.block 0 (.loop (.seq (.ops [] (.op ⟨(some 24), none, (.p (.bin .lss (.tmp 23) (.tmp 22)))⟩
  .done))
 (.seq (.cond (.tmp 24)
 .skip
 (.exit 0))
 (.seq (.block 1 (.seq (.ops [] (.op ⟨(some 25), none, (.p (.iaddr 3 (.tmp 21) (.tmp 23)))⟩
  (.op ⟨(some 26), none, (.p (.loadi true 3 (.tmp 25)))⟩
  (.op ⟨(some 8), none, (.alloc [(.str []), (.str []), (.int .i64 0)])⟩
  (.op ⟨(some 8), none, (.storef 8 3 (.tmp 26))⟩
  .done)))))
 (.seq (.ops [] (.op ⟨(some 27), none, (.p (.val (.tmp 6)))⟩
  (.op ⟨(some 28), none, (.p (.faddr 0 (.tmp 8)))⟩
  (.op ⟨(some 29), none, (.p (.loadi false 1 (.tmp 28)))⟩
  (.op ⟨(some 31), none, (.p (.faddr 1 (.tmp 8)))⟩
  (.op ⟨(some 32), none, (.p (.loadi false 1 (.tmp 31)))⟩
  (.op ⟨(some 30), none, (.call 42 [(.tmp 27), (.tmp 29)])⟩
  (.op ⟨(some 33), none, (.call 42 [(.tmp 30), (.tmp 32)])⟩
  (.op ⟨(some 6), none, (.p (.val (.tmp 33)))⟩
  .done)))))))))
 (.ops [] (.op ⟨(some 34), none, (.p (.val (.tmp 6)))⟩
  (.op ⟨(some 35), none, (.p (.faddr 2 (.tmp 8)))⟩
  (.op ⟨(some 36), none, (.p (.loadi false 1 (.tmp 35)))⟩
  (.op ⟨(some 37), none, (.p (.cvi .u64 (.tmp 36)))⟩
  (.op ⟨(some 38), none, (.call 43 [(.tmp 34), (.tmp 37)])⟩
  (.op ⟨(some 6), none, (.p (.val (.tmp 38)))⟩
  .done))))))))))
 (.ops [] (.op ⟨(some 39), none, (.p (.bin .add (.tmp 23) (.con (.int .i64 1))))⟩
  (.op ⟨(some 23), none, (.p (.val (.tmp 39)))⟩
  .done)))))))))
 (.seq (.ops [] (.op ⟨(some 40), none, (.p (.val (.tmp 6)))⟩
  (.op ⟨(some 41), none, (.p (.val (.tmp 5)))⟩
  (.op ⟨(some 42), none, (.p (.lenl (.tmp 41)))⟩
  (.op ⟨(some 43), none, (.p (.cvi .u64 (.tmp 42)))⟩
  (.op ⟨(some 44), none, (.call 43 [(.tmp 40), (.tmp 43)])⟩
  (.op ⟨(some 6), none, (.p (.val (.tmp 44)))⟩
  .done)))))))
 (.seq (.seq (.ops [] (.op ⟨(some 45), none, (.p (.val (.tmp 5)))⟩
  (.op ⟨(some 46), none, (.p (.lenl (.tmp 45)))⟩
  (.op ⟨(some 47), none, (.p (.val (.con (.int .i64 0))))⟩
  .done))))
 (.block 2 (.loop (.seq (.ops [] (.op ⟨(some 48), none, (.p (.bin .lss (.tmp 47) (.tmp 46)))⟩
  .done))
 (.seq (.cond (.tmp 48)
 .skip
 (.exit 2))
 (.seq (.block 3 (.seq (.ops [] (.op ⟨(some 49), none, (.p (.iaddr 3 (.tmp 45) (.tmp 47)))⟩
  (.op ⟨(some 50), none, (.p (.loadi true 3 (.tmp 49)))⟩
  (.op ⟨(some 10), none, (.alloc [(.str []), (.slice true 2 [] .full), (.slice true 2 [] .full)])⟩
  (.op ⟨(some 10), none, (.storef 10 3 (.tmp 50))⟩
  .done)))))
 (.ops [] (.op ⟨(some 51), none, (.p (.val (.tmp 6)))⟩
  (.op ⟨(some 52), none, (.p (.faddr 0 (.tmp 10)))⟩
  (.op ⟨(some 53), none, (.p (.loadi false 1 (.tmp 52)))⟩
  (.op ⟨(some 55), none, (.p (.faddr 1 (.tmp 10)))⟩
  (.op ⟨(some 56), none, (.p (.loadi true 2 (.tmp 55)))⟩
  (.op ⟨(some 54), none, (.call 42 [(.tmp 51), (.tmp 53)])⟩
  (.op ⟨(some 57), none, (.call 44 [(.tmp 54), (.tmp 56)])⟩
  (.op ⟨(some 6), none, (.p (.val (.tmp 57)))⟩
  .done)))))))))))
 (.ops [] (.op ⟨(some 58), none, (.p (.bin .add (.tmp 47) (.con (.int .i64 1))))⟩
  (.op ⟨(some 47), none, (.p (.val (.tmp 58)))⟩
  .done)))))))))
 (.seq (.ops [] (.op ⟨(some 59), none, (.p (.val (.tmp 6)))⟩
  (.op ⟨(some 60), none, (.p (.val (.tmp 6)))⟩
  (.op ⟨(some 61), none, (.p (.cvbs (.tmp 60)))⟩
  (.op ⟨(some 62), none, (.call 60 [(.tmp 61)])⟩
  (.op ⟨(some 63), none, (.call 59 [(.tmp 62)])⟩
  (.op ⟨(some 64), none, (.p (.cvi .u64 (.tmp 63)))⟩
  (.op ⟨(some 65), none, (.call 58 [(.tmp 59), (.tmp 64), (.con (.int .i64 4))])⟩
  (.op ⟨(some 66), none, (.p (.cvbs (.tmp 65)))⟩
  (.op ⟨(some 2), none, (.p (.val (.tmp 66)))⟩
  (.op ⟨(some 3), none, (.p (.val (.con (.int .i64 0))))⟩
  .done)))))))))))
 .ret))))))))⟩
theorem i20_is : compFunc Tryz.prog ⟨[8, 10], [], [8, 10, 0, 11, 13, 15, 25, 28, 31, 35, 49, 52, 55]⟩ [] 20 = some i20 := by kernel_rfl

/-- baton/batonlaw24.is -/
def i22 : IFn := ⟨2, 35, [.tmp 4],
 (.seq (.ops [] (.op ⟨(some 4), none, (.p (.val (.con (.bool false))))⟩
  .done))
 (.seq (.ops [] (.op ⟨(some 9), none, (.p (.val (.tmp 1)))⟩
  (.op ⟨(some 10), none, (.p (.bin .add (.tmp 9) (.con (.str [120]))))⟩
  (.op ⟨(some 11), none, (.call 31 [(.tmp 10)])⟩
  (.op ⟨(some 8), none, (.p (.val (.tmp 11)))⟩
  (.op ⟨(some 12), none, (.p (.ext 0 (.tmp 8)))⟩
  (.op ⟨(some 13), none, (.p (.ext 1 (.tmp 8)))⟩
  (.op ⟨(some 14), none, (.p (.ext 2 (.tmp 8)))⟩
  (.op ⟨(some 5), none, (.p (.val (.tmp 12)))⟩
  (.op ⟨(some 6), none, (.p (.val (.tmp 13)))⟩
  (.op ⟨(some 7), none, (.p (.val (.tmp 14)))⟩
  .done)))))))))))
 (.seq (.ops [] (.op ⟨(some 15), none, (.p (.val (.tmp 0)))⟩
  (.op ⟨(some 16), none, (.call 15 [(.con (.slice true 1 [] .full)), (.tmp 15)])⟩
  (.op ⟨(some 17), none, (.p (.cvbs (.tmp 16)))⟩
  (.op ⟨(some 18), none, (.p (.val (.tmp 1)))⟩
  (.op ⟨(some 19), none, (.p (.bin .eql (.tmp 17) (.tmp 18)))⟩
  (.op ⟨(some 20), none, (.p (.val (.tmp 19)))⟩
  (.op ⟨(some 21), (some (20, true)), (.p (.val (.tmp 5)))⟩
  (.op ⟨(some 22), (some (20, true)), (.p (.val (.tmp 0)))⟩
  (.op ⟨(some 23), (some (20, true)), (.p (.bin .eql (.tmp 21) (.tmp 22)))⟩
  (.op ⟨(some 24), none, (.p (.pick (.tmp 20) (.tmp 23) (.con (.bool false))))⟩
  (.op ⟨(some 25), none, (.p (.val (.tmp 24)))⟩
  (.op ⟨(some 26), (some (25, true)), (.p (.val (.tmp 6)))⟩
  (.op ⟨(some 27), (some (25, true)), (.p (.val (.tmp 1)))⟩
  (.op ⟨(some 28), (some (25, true)), (.p (.lens (.tmp 27)))⟩
  (.op ⟨(some 29), (some (25, true)), (.p (.bin .eql (.tmp 26) (.tmp 28)))⟩
  (.op ⟨(some 30), none, (.p (.pick (.tmp 25) (.tmp 29) (.con (.bool false))))⟩
  (.op ⟨(some 31), none, (.p (.val (.tmp 30)))⟩
  (.op ⟨(some 32), (some (31, true)), (.p (.val (.tmp 7)))⟩
  (.op ⟨(some 33), (some (31, true)), (.p (.bin .eql (.tmp 32) (.con (.int .i64 0))))⟩
  (.op ⟨(some 34), none, (.p (.pick (.tmp 31) (.tmp 33) (.con (.bool false))))⟩
  (.op ⟨(some 4), none, (.p (.val (.tmp 34)))⟩
  .done))))))))))))))))))))))
 .ret)))⟩
theorem i22_is : compFunc Tryz.prog ⟨[], [], []⟩ [] 22 = some i22 := by kernel_rfl

/-- baton/pack.Batch -/
def i23 : IFn := ⟨1, 16, [.cell 2 true 4, .tmp 3],
 (.seq (.ops [] (.op ⟨(some 2), none, (.alloc [(.str []), (.str []), (.int .i64 0), (.slice true 2 [] .full)])⟩
  (.op ⟨(some 3), none, (.p (.val (.con (.int .i64 0))))⟩
  .done)))
 (.seq (.ops [] (.op ⟨(some 7), none, (.p (.val (.tmp 0)))⟩
  (.op ⟨(some 8), none, (.call 61 [(.tmp 7)])⟩
  (.op ⟨(some 6), none, (.p (.val (.tmp 8)))⟩
  (.op ⟨(some 9), none, (.p (.ext 0 (.tmp 6)))⟩
  (.op ⟨(some 10), none, (.p (.ext 1 (.tmp 6)))⟩
  (.op ⟨(some 4), none, (.alloc [(.str []), (.str []), (.int .i64 0), (.slice true 2 [] .full)])⟩
  (.op ⟨(some 4), none, (.storef 4 4 (.tmp 9))⟩
  (.op ⟨(some 5), none, (.p (.val (.tmp 10)))⟩
  .done)))))))))
 (.seq (.seq (.ops [] (.op ⟨(some 11), none, (.p (.val (.tmp 5)))⟩
  (.op ⟨(some 12), none, (.p (.bin .neq (.tmp 11) (.con (.int .i64 0))))⟩
  .done)))
 (.cond (.tmp 12)
 (.seq (.ops [] (.op ⟨(some 13), none, (.p (.build [(.str []), (.str []), (.int .i64 0), (.slice true 2 [] .full)] []))⟩
  (.op ⟨(some 14), none, (.p (.val (.tmp 5)))⟩
  (.op ⟨none, none, (.store 4 (.tmp 2) (.tmp 13))⟩
  (.op ⟨(some 3), none, (.p (.val (.tmp 14)))⟩
  .done)))))
 .ret)
 .skip))
 (.seq (.ops [] (.op ⟨(some 15), none, (.p (.loadi true 4 (.tmp 4)))⟩
  (.op ⟨none, none, (.store 4 (.tmp 2) (.tmp 15))⟩
  (.op ⟨(some 3), none, (.p (.val (.con (.int .i64 0))))⟩
  .done))))
 .ret))))⟩
theorem i23_is : compFunc Tryz.prog ⟨[4], [], [4]⟩ [] 23 = some i23 := by kernel_rfl

/-- baton/batonref14.SameBatch -/
def i24 : IFn := ⟨2, 31, [.tmp 4],
 (.seq (.ops [] (.op ⟨(some 2), none, (.p (.boxi (.tmp 0)))⟩
  (.op ⟨(some 3), none, (.p (.boxi (.tmp 1)))⟩
  (.op ⟨(some 4), none, (.p (.val (.con (.bool false))))⟩
  .done))))
 (.seq (.ops [] (.op ⟨(some 5), none, (.p (.faddr 0 (.tmp 2)))⟩
  (.op ⟨(some 6), none, (.p (.loadi false 1 (.tmp 5)))⟩
  (.op ⟨(some 7), none, (.p (.faddr 0 (.tmp 3)))⟩
  (.op ⟨(some 8), none, (.p (.loadi false 1 (.tmp 7)))⟩
  (.op ⟨(some 9), none, (.p (.bin .eql (.tmp 6) (.tmp 8)))⟩
  (.op ⟨(some 10), none, (.p (.val (.tmp 9)))⟩
  (.op ⟨(some 11), (some (10, true)), (.p (.faddr 1 (.tmp 2)))⟩
  (.op ⟨(some 12), (some (10, true)), (.p (.loadi false 1 (.tmp 11)))⟩
  (.op ⟨(some 13), (some (10, true)), (.p (.faddr 1 (.tmp 3)))⟩
  (.op ⟨(some 14), (some (10, true)), (.p (.loadi false 1 (.tmp 13)))⟩
  (.op ⟨(some 15), (some (10, true)), (.p (.bin .eql (.tmp 12) (.tmp 14)))⟩
  (.op ⟨(some 16), none, (.p (.pick (.tmp 10) (.tmp 15) (.con (.bool false))))⟩
  (.op ⟨(some 17), none, (.p (.val (.tmp 16)))⟩
  (.op ⟨(some 18), (some (17, true)), (.p (.faddr 2 (.tmp 2)))⟩
  (.op ⟨(some 19), (some (17, true)), (.p (.loadi false 1 (.tmp 18)))⟩
  (.op ⟨(some 20), (some (17, true)), (.p (.faddr 2 (.tmp 3)))⟩
  (.op ⟨(some 21), (some (17, true)), (.p (.loadi false 1 (.tmp 20)))⟩
  (.op ⟨(some 22), (some (17, true)), (.p (.bin .eql (.tmp 19) (.tmp 21)))⟩
  (.op ⟨(some 23), none, (.p (.pick (.tmp 17) (.tmp 22) (.con (.bool false))))⟩
  (.op ⟨(some 24), none, (.p (.val (.tmp 23)))⟩
  (.op ⟨(some 25), (some (24, true)), (.p (.faddr 3 (.tmp 2)))⟩
  (.op ⟨(some 26), (some (24, true)), (.p (.loadi false 1 (.tmp 25)))⟩
  (.op ⟨(some 27), (some (24, true)), (.p (.faddr 3 (.tmp 3)))⟩
  (.op ⟨(some 28), (some (24, true)), (.p (.loadi false 1 (.tmp 27)))⟩
  (.op ⟨(some 29), (some (24, true)), (.call 62 [(.tmp 26), (.tmp 28)])⟩
  (.op ⟨(some 30), none, (.p (.pick (.tmp 24) (.tmp 29) (.con (.bool false))))⟩
  (.op ⟨(some 4), none, (.p (.val (.tmp 30)))⟩
  .done))))))))))))))))))))))))))))
 .ret))⟩
theorem i24_is : compFunc Tryz.prog ⟨[], [2, 3], [2, 3, 5, 7, 11, 13, 18, 20, 25, 27]⟩ [] 24 = some i24 := by kernel_rfl

/-- baton/batonlaw24.one -/
def i25 : IFn := ⟨1, 10, [.cell 2 true 4],
 (.seq (.ops [] (.op ⟨(some 2), none, (.alloc [(.str []), (.str []), (.int .i64 0), (.slice true 2 [] .full)])⟩
  .done))
 (.seq (.ops [] (.op ⟨(some 3), none, (.p (.build [(.str []), (.str [])] [(0, 1, (.con (.str [97]))), (1, 1, (.con (.str [98])))]))⟩
  (.op ⟨(some 4), none, (.p (.mks 2 [(.tmp 3)]))⟩
  (.op ⟨(some 5), none, (.p (.val (.tmp 0)))⟩
  (.op ⟨(some 6), none, (.call 63 [(.tmp 5)])⟩
  (.op ⟨(some 7), none, (.p (.build [(.slice true 2 [] .full), (.slice true 2 [] .full)] [(0, 1, (.tmp 4)), (1, 1, (.tmp 6))]))⟩
  (.op ⟨(some 8), none, (.p (.mks 2 [(.tmp 7)]))⟩
  (.op ⟨(some 9), none, (.p (.build [(.str []), (.str []), (.int .i64 0), (.slice true 2 [] .full)] [(0, 1, (.con (.str [116]))), (1, 1, (.con (.str [120]))), (2, 1, (.con (.int .i64 2))), (3, 1, (.tmp 8))]))⟩
  (.op ⟨none, none, (.store 4 (.tmp 2) (.tmp 9))⟩
  .done)))))))))
 .ret))⟩
theorem i25_is : compFunc Tryz.prog ⟨[], [], []⟩ [] 25 = some i25 := by kernel_rfl

/-- baton/pack.State -/
def i28 : IFn := ⟨1, 46, [.tmp 2, .tmp 3],
 (.seq (.ops [] (.op ⟨(some 2), none, (.p (.val (.con .nilptr)))⟩
  (.op ⟨(some 3), none, (.p (.val (.con (.int .i64 0))))⟩
  .done)))
 (.seq (.ops [] (.op ⟨(some 11), none, (.p (.val (.tmp 0)))⟩
  (.op ⟨(some 12), none, (.p (.lens (.tmp 11)))⟩
  (.op ⟨(some 13), none, (.p (.bin .sub (.tmp 12) (.con (.int .i64 4))))⟩
  (.op ⟨(some 4), none, (.p (.val (.tmp 13)))⟩
  .done)))))
 (.seq (.seq (.ops [] (.op ⟨(some 14), none, (.p (.val (.tmp 4)))⟩
  (.op ⟨(some 15), none, (.p (.bin .lss (.tmp 14) (.con (.int .i64 0))))⟩
  .done)))
 (.cond (.tmp 15)
 (.seq (.ops [] (.op ⟨(some 2), none, (.p (.val (.con .nilptr)))⟩
  (.op ⟨(some 3), none, (.p (.val (.con (.int .i64 8))))⟩
  .done)))
 .ret)
 .skip))
 (.seq (.ops [] (.op ⟨(some 17), none, (.p (.val (.tmp 0)))⟩
  (.op ⟨(some 18), none, (.p (.val (.tmp 4)))⟩
  (.op ⟨(some 19), none, (.call 71 [(.tmp 17), (.tmp 18), (.con (.int .i64 4))])⟩
  (.op ⟨(some 16), none, (.p (.val (.tmp 19)))⟩
  (.op ⟨(some 20), none, (.p (.ext 0 (.tmp 16)))⟩
  (.op ⟨(some 21), none, (.p (.ext 1 (.tmp 16)))⟩
  (.op ⟨(some 22), none, (.p (.ext 2 (.tmp 16)))⟩
  (.op ⟨(some 5), none, (.p (.val (.tmp 20)))⟩
  (.op ⟨(some 6), none, (.p (.val (.tmp 21)))⟩
  (.op ⟨(some 7), none, (.p (.val (.tmp 22)))⟩
  .done)))))))))))
 (.seq (.seq (.ops [] (.op ⟨(some 23), none, (.p (.val (.tmp 0)))⟩
  (.op ⟨(some 24), none, (.p (.val (.tmp 4)))⟩
  (.op ⟨(some 25), none, (.p (.sls (.tmp 23) none (some (.tmp 24))))⟩
  (.op ⟨(some 26), none, (.p (.val (.tmp 5)))⟩
  (.op ⟨(some 27), none, (.p (.cvi .u32 (.tmp 26)))⟩
  (.op ⟨(some 28), none, (.call 72 [(.tmp 25), (.tmp 27)])⟩
  (.op ⟨(some 29), none, (.p (.un .not (.tmp 28)))⟩
  .done))))))))
 (.cond (.tmp 29)
 (.seq (.ops [] (.op ⟨(some 2), none, (.p (.val (.con .nilptr)))⟩
  (.op ⟨(some 3), none, (.p (.val (.con (.int .i64 42))))⟩
  .done)))
 .ret)
 .skip))
 (.seq (.ops [] (.op ⟨(some 31), none, (.p (.val (.tmp 0)))⟩
  (.op ⟨(some 32), none, (.p (.val (.tmp 4)))⟩
  (.op ⟨(some 33), none, (.p (.sls (.tmp 31) none (some (.tmp 32))))⟩
  (.op ⟨(some 34), none, (.call 73 [(.tmp 33)])⟩
  (.op ⟨(some 30), none, (.p (.val (.tmp 34)))⟩
  (.op ⟨(some 35), none, (.p (.ext 0 (.tmp 30)))⟩
  (.op ⟨(some 36), none, (.p (.ext 1 (.tmp 30)))⟩
  (.op ⟨(some 37), none, (.p (.ext 2 (.tmp 30)))⟩
  (.op ⟨(some 8), none, (.p (.val (.tmp 35)))⟩
  (.op ⟨(some 9), none, (.p (.val (.tmp 36)))⟩
  (.op ⟨(some 10), none, (.p (.val (.tmp 37)))⟩
  .done))))))))))))
 (.seq (.seq (.ops [] (.op ⟨(some 38), none, (.p (.val (.tmp 10)))⟩
  (.op ⟨(some 39), none, (.p (.bin .neq (.tmp 38) (.con (.int .i64 0))))⟩
  .done)))
 (.cond (.tmp 39)
 (.seq (.ops [] (.op ⟨(some 40), none, (.p (.val (.tmp 10)))⟩
  (.op ⟨(some 2), none, (.p (.val (.con .nilptr)))⟩
  (.op ⟨(some 3), none, (.p (.val (.tmp 40)))⟩
  .done))))
 .ret)
 .skip))
 (.seq (.ops [] (.op ⟨(some 41), none, (.p (.val (.tmp 8)))⟩
  (.op ⟨(some 42), none, (.p (.val (.tmp 9)))⟩
  (.op ⟨(some 43), none, (.call 74 [(.tmp 41), (.tmp 42)])⟩
  (.op ⟨(some 44), none, (.p (.ext 0 (.tmp 43)))⟩
  (.op ⟨(some 45), none, (.p (.ext 1 (.tmp 43)))⟩
  (.op ⟨(some 2), none, (.p (.val (.tmp 44)))⟩
  (.op ⟨(some 3), none, (.p (.val (.tmp 45)))⟩
  .done))))))))
 .ret))))))))⟩
theorem i28_is : compFunc Tryz.prog ⟨[], [], []⟩ [] 28 = some i28 := by kernel_rfl

/-- baton/pack.Word -/
def i31 : IFn := ⟨1, 15, [.tmp 2, .tmp 3, .cell 4 false 1],
 (.seq (.ops [2, 3, 4] (.op ⟨(some 2), none, (.p (.val (.con (.int .u64 0))))⟩
  (.op ⟨(some 3), none, (.p (.val (.con (.int .i64 0))))⟩
  (.op ⟨(some 4), none, (.alloc [(.int .i64 0)])⟩
  .done))))
 (.seq (.ops [2, 3, 4] (.op ⟨none, none, (.defer (.con (.func (.func 77) [] [])) [(.tmp 4)])⟩
  .done))
 (.seq (.ops [2, 3, 4] (.op ⟨(some 6), none, (.p (.val (.tmp 0)))⟩
  (.op ⟨(some 7), none, (.call 78 [(.tmp 6)])⟩
  (.op ⟨(some 8), none, (.p (.build [.nilptr] [(0, 1, (.tmp 7))]))⟩
  (.op ⟨(some 5), none, (.alloc [.nilptr])⟩
  (.op ⟨(some 5), none, (.storef 5 1 (.tmp 8))⟩
  .done))))))
 (.seq (.ops [2, 3, 4] (.op ⟨(some 9), none, (.p (.loadi true 1 (.tmp 5)))⟩
  (.op ⟨(some 10), none, (.call 79 [(.tmp 9)])⟩
  (.op ⟨(some 2), none, (.p (.val (.tmp 10)))⟩
  .done))))
 (.seq (.ops [2, 3, 4] (.op ⟨(some 11), none, (.p (.val (.tmp 2)))⟩
  (.op ⟨(some 12), none, (.p (.faddr 0 (.tmp 5)))⟩
  (.op ⟨(some 13), none, (.p (.loadi false 1 (.tmp 12)))⟩
  (.op ⟨(some 14), none, (.call 80 [(.tmp 13)])⟩
  (.op ⟨(some 2), none, (.p (.val (.tmp 11)))⟩
  (.op ⟨(some 3), none, (.p (.val (.tmp 14)))⟩
  (.op ⟨none, none, (.store 1 (.tmp 4) (.con (.int .i64 0)))⟩
  .done))))))))
 .ret)))))⟩
theorem i31_is : compFunc Tryz.prog ⟨[5], [], [5, 12]⟩ [2, 3, 4] 31 = some i31 := by kernel_rfl

/-- baton/batonlaw24.noWord -/
def i33 : IFn := ⟨2, 25, [.tmp 4],
 (.seq (.ops [] (.op ⟨(some 4), none, (.p (.val (.con (.bool false))))⟩
  .done))
 (.seq (.ops [] (.op ⟨(some 9), none, (.p (.val (.tmp 0)))⟩
  (.op ⟨(some 10), none, (.call 31 [(.tmp 9)])⟩
  (.op ⟨(some 8), none, (.p (.val (.tmp 10)))⟩
  (.op ⟨(some 11), none, (.p (.ext 0 (.tmp 8)))⟩
  (.op ⟨(some 12), none, (.p (.ext 1 (.tmp 8)))⟩
  (.op ⟨(some 13), none, (.p (.ext 2 (.tmp 8)))⟩
  (.op ⟨(some 5), none, (.p (.val (.tmp 11)))⟩
  (.op ⟨(some 6), none, (.p (.val (.tmp 12)))⟩
  (.op ⟨(some 7), none, (.p (.val (.tmp 13)))⟩
  .done))))))))))
 (.seq (.ops [] (.op ⟨(some 14), none, (.p (.val (.tmp 5)))⟩
  (.op ⟨(some 15), none, (.p (.bin .eql (.tmp 14) (.con (.int .u64 0))))⟩
  (.op ⟨(some 16), none, (.p (.val (.tmp 15)))⟩
  (.op ⟨(some 17), (some (16, true)), (.p (.val (.tmp 6)))⟩
  (.op ⟨(some 18), (some (16, true)), (.p (.bin .eql (.tmp 17) (.con (.int .i64 0))))⟩
  (.op ⟨(some 19), none, (.p (.pick (.tmp 16) (.tmp 18) (.con (.bool false))))⟩
  (.op ⟨(some 20), none, (.p (.val (.tmp 19)))⟩
  (.op ⟨(some 21), (some (20, true)), (.p (.val (.tmp 7)))⟩
  (.op ⟨(some 22), (some (20, true)), (.p (.val (.tmp 1)))⟩
  (.op ⟨(some 23), (some (20, true)), (.p (.bin .eql (.tmp 21) (.tmp 22)))⟩
  (.op ⟨(some 24), none, (.p (.pick (.tmp 20) (.tmp 23) (.con (.bool false))))⟩
  (.op ⟨(some 4), none, (.p (.val (.tmp 24)))⟩
  .done)))))))))))))
 .ret)))⟩
theorem i33_is : compFunc Tryz.prog ⟨[], [], []⟩ [] 33 = some i33 := by kernel_rfl

/-- baton/batonlaw24.refused -/
def i34 : IFn := ⟨2, 20, [.tmp 4],
 (.seq (.ops [] (.op ⟨(some 4), none, (.p (.val (.con (.bool false))))⟩
  .done))
 (.seq (.ops [] (.op ⟨(some 8), none, (.p (.val (.tmp 0)))⟩
  (.op ⟨(some 9), none, (.call 23 [(.tmp 8)])⟩
  (.op ⟨(some 7), none, (.p (.val (.tmp 9)))⟩
  (.op ⟨(some 10), none, (.p (.ext 0 (.tmp 7)))⟩
  (.op ⟨(some 11), none, (.p (.ext 1 (.tmp 7)))⟩
  (.op ⟨(some 5), none, (.alloc [(.str []), (.str []), (.int .i64 0), (.slice true 2 [] .full)])⟩
  (.op ⟨(some 5), none, (.storef 5 4 (.tmp 10))⟩
  (.op ⟨(some 6), none, (.p (.val (.tmp 11)))⟩
  .done)))))))))
 (.seq (.ops [] (.op ⟨(some 12), none, (.p (.val (.tmp 6)))⟩
  (.op ⟨(some 13), none, (.p (.val (.tmp 1)))⟩
  (.op ⟨(some 14), none, (.p (.bin .eql (.tmp 12) (.tmp 13)))⟩
  (.op ⟨(some 15), none, (.p (.val (.tmp 14)))⟩
  (.op ⟨(some 16), (some (15, true)), (.p (.loadi true 4 (.tmp 5)))⟩
  (.op ⟨(some 17), (some (15, true)), (.p (.build [(.str []), (.str []), (.int .i64 0), (.slice true 2 [] .full)] []))⟩
  (.op ⟨(some 18), (some (15, true)), (.call 24 [(.tmp 16), (.tmp 17)])⟩
  (.op ⟨(some 19), none, (.p (.pick (.tmp 15) (.tmp 18) (.con (.bool false))))⟩
  (.op ⟨(some 4), none, (.p (.val (.tmp 19)))⟩
  .done))))))))))
 .ret)))⟩
theorem i34_is : compFunc Tryz.prog ⟨[5], [], [5]⟩ [] 34 = some i34 := by kernel_rfl

/-- baton/batonlaw24.empty -/
def i35 : IFn := ⟨0, 18, [.tmp 0],
 (.seq (.ops [] (.op ⟨(some 0), none, (.p (.val (.con (.str []))))⟩
  .done))
 (.seq (.ops [] (.op ⟨(some 2), none, (.call 66 [(.con (.str [0, 0]))])⟩
  (.op ⟨(some 3), none, (.call 65 [(.tmp 2)])⟩
  (.op ⟨(some 1), none, (.p (.val (.tmp 3)))⟩
  .done))))
 (.seq (.ops [] (.op ⟨(some 4), none, (.p (.val (.tmp 1)))⟩
  (.op ⟨(some 5), none, (.p (.cvi .u8 (.tmp 4)))⟩
  (.op ⟨(some 6), none, (.p (.val (.tmp 1)))⟩
  (.op ⟨(some 7), none, (.p (.bin .shr (.tmp 6) (.con (.int .u64 8))))⟩
  (.op ⟨(some 8), none, (.p (.cvi .u8 (.tmp 7)))⟩
  (.op ⟨(some 9), none, (.p (.val (.tmp 1)))⟩
  (.op ⟨(some 10), none, (.p (.bin .shr (.tmp 9) (.con (.int .u64 16))))⟩
  (.op ⟨(some 11), none, (.p (.cvi .u8 (.tmp 10)))⟩
  (.op ⟨(some 12), none, (.p (.val (.tmp 1)))⟩
  (.op ⟨(some 13), none, (.p (.bin .shr (.tmp 12) (.con (.int .u64 24))))⟩
  (.op ⟨(some 14), none, (.p (.cvi .u8 (.tmp 13)))⟩
  (.op ⟨(some 15), none, (.p (.mks 1 [(.tmp 5), (.tmp 8), (.tmp 11), (.tmp 14)]))⟩
  (.op ⟨(some 16), none, (.p (.cvbs (.tmp 15)))⟩
  (.op ⟨(some 17), none, (.p (.bin .add (.con (.str [0, 0])) (.tmp 16)))⟩
  (.op ⟨(some 0), none, (.p (.val (.tmp 17)))⟩
  .done))))))))))))))))
 .ret)))⟩
theorem i35_is : compFunc Tryz.prog ⟨[], [], []⟩ [] 35 = some i35 := by kernel_rfl

/-- baton/fence.Same -/
def i36 : IFn := ⟨2, 37, [.tmp 4],
 (.seq (.ops [] (.op ⟨(some 4), none, (.p (.val (.con (.bool false))))⟩
  .done))
 (.seq (.seq (.ops [] (.op ⟨(some 5), none, (.p (.val (.tmp 0)))⟩
  (.op ⟨(some 6), none, (.p (.eqn .p false (.tmp 5) (.con .nilptr)))⟩
  (.op ⟨(some 7), none, (.p (.val (.tmp 6)))⟩
  (.op ⟨(some 8), (some (7, false)), (.p (.val (.tmp 1)))⟩
  (.op ⟨(some 9), (some (7, false)), (.p (.eqn .p false (.tmp 8) (.con .nilptr)))⟩
  (.op ⟨(some 10), none, (.p (.pick (.tmp 7) (.con (.bool true)) (.tmp 9)))⟩
  .done)))))))
 (.cond (.tmp 10)
 (.seq (.ops [] (.op ⟨(some 11), none, (.p (.val (.tmp 0)))⟩
  (.op ⟨(some 12), none, (.p (.eqn .p false (.tmp 11) (.con .nilptr)))⟩
  (.op ⟨(some 13), none, (.p (.val (.tmp 12)))⟩
  (.op ⟨(some 14), (some (13, true)), (.p (.val (.tmp 1)))⟩
  (.op ⟨(some 15), (some (13, true)), (.p (.eqn .p false (.tmp 14) (.con .nilptr)))⟩
  (.op ⟨(some 16), none, (.p (.pick (.tmp 13) (.tmp 15) (.con (.bool false))))⟩
  (.op ⟨(some 4), none, (.p (.val (.tmp 16)))⟩
  .done))))))))
 .ret)
 .skip))
 (.seq (.ops [] (.op ⟨(some 17), none, (.p (.val (.tmp 0)))⟩
  (.op ⟨(some 18), none, (.p (.nilchk (.tmp 17)))⟩
  (.op ⟨(some 19), none, (.p (.faddr 0 (.tmp 18)))⟩
  (.op ⟨(some 20), none, (.p (.loadi false 1 (.tmp 19)))⟩
  (.op ⟨(some 21), none, (.p (.val (.tmp 1)))⟩
  (.op ⟨(some 22), none, (.p (.nilchk (.tmp 21)))⟩
  (.op ⟨(some 23), none, (.p (.faddr 0 (.tmp 22)))⟩
  (.op ⟨(some 24), none, (.p (.loadi false 1 (.tmp 23)))⟩
  (.op ⟨(some 25), none, (.call 82 [(.tmp 20), (.tmp 24)])⟩
  (.op ⟨(some 26), none, (.p (.val (.tmp 25)))⟩
  (.op ⟨(some 27), (some (26, true)), (.p (.val (.tmp 0)))⟩
  (.op ⟨(some 28), (some (26, true)), (.p (.nilchk (.tmp 27)))⟩
  (.op ⟨(some 29), (some (26, true)), (.p (.faddr 1 (.tmp 28)))⟩
  (.op ⟨(some 30), (some (26, true)), (.p (.loadi false 1 (.tmp 29)))⟩
  (.op ⟨(some 31), (some (26, true)), (.p (.val (.tmp 1)))⟩
  (.op ⟨(some 32), (some (26, true)), (.p (.nilchk (.tmp 31)))⟩
  (.op ⟨(some 33), (some (26, true)), (.p (.faddr 1 (.tmp 32)))⟩
  (.op ⟨(some 34), (some (26, true)), (.p (.loadi false 1 (.tmp 33)))⟩
  (.op ⟨(some 35), (some (26, true)), (.call 83 [(.tmp 30), (.tmp 34), (.con (.func (.func 84) [] []))])⟩
  (.op ⟨(some 36), none, (.p (.pick (.tmp 26) (.tmp 35) (.con (.bool false))))⟩
  (.op ⟨(some 4), none, (.p (.val (.tmp 36)))⟩
  .done))))))))))))))))))))))
 .ret)))⟩
theorem i36_is : compFunc Tryz.prog ⟨[], [], [0, 1, 5, 8, 11, 14, 17, 21, 27, 31, 18, 22, 28, 32, 19, 23, 29, 33]⟩ [] 36 = some i36 := by kernel_rfl

/-- baton/batonlaw24.noState -/
def i37 : IFn := ⟨1, 16, [.tmp 2],
 (.seq (.ops [] (.op ⟨(some 2), none, (.p (.val (.con (.bool false))))⟩
  .done))
 (.seq (.ops [] (.op ⟨(some 6), none, (.p (.val (.tmp 0)))⟩
  (.op ⟨(some 7), none, (.call 28 [(.tmp 6)])⟩
  (.op ⟨(some 5), none, (.p (.val (.tmp 7)))⟩
  (.op ⟨(some 8), none, (.p (.ext 0 (.tmp 5)))⟩
  (.op ⟨(some 9), none, (.p (.ext 1 (.tmp 5)))⟩
  (.op ⟨(some 3), none, (.p (.val (.tmp 8)))⟩
  (.op ⟨(some 4), none, (.p (.val (.tmp 9)))⟩
  .done))))))))
 (.seq (.ops [] (.op ⟨(some 10), none, (.p (.val (.tmp 3)))⟩
  (.op ⟨(some 11), none, (.p (.eqn .p false (.tmp 10) (.con .nilptr)))⟩
  (.op ⟨(some 12), none, (.p (.val (.tmp 11)))⟩
  (.op ⟨(some 13), (some (12, true)), (.p (.val (.tmp 4)))⟩
  (.op ⟨(some 14), (some (12, true)), (.p (.bin .neq (.tmp 13) (.con (.int .i64 0))))⟩
  (.op ⟨(some 15), none, (.p (.pick (.tmp 12) (.tmp 14) (.con (.bool false))))⟩
  (.op ⟨(some 2), none, (.p (.val (.tmp 15)))⟩
  .done))))))))
 .ret)))⟩
theorem i37_is : compFunc Tryz.prog ⟨[], [], []⟩ [] 37 = some i37 := by kernel_rfl

/-- (*baton/fence.State).All -/
def i38 : IFn := ⟨1, 41, [.tmp 2],
 (.seq (.ops [] (.op ⟨(some 2), none, (.p (.val (.con (.slice true 3 [] .full))))⟩
  .done))
 (.seq (.seq (.ops [] (.op ⟨(some 7), none, (.p (.val (.tmp 0)))⟩
  (.op ⟨(some 8), none, (.p (.eqn .p false (.tmp 7) (.con .nilptr)))⟩
  .done)))
 (.cond (.tmp 8)
 (.seq (.ops [] (.op ⟨(some 2), none, (.p (.val (.con (.slice true 3 [] .full))))⟩
  .done))
 .ret)
 .skip))
 (.seq (.ops [] (.op ⟨(some 3), none, (.p (.val (.con (.slice true 3 [] .full))))⟩
  .done))
 (.seq (.seq (.ops [] (.op ⟨(some 9), none, (.p (.val (.tmp 0)))⟩
  (.op ⟨(some 10), none, (.p (.nilchk (.tmp 9)))⟩
  (.op ⟨(some 11), none, (.p (.faddr 1 (.tmp 10)))⟩
  (.op ⟨(some 12), none, (.p (.loadi false 1 (.tmp 11)))⟩
  (.op ⟨(some 13), none, (.call 87 [(.tmp 12)])⟩
  (.op ⟨(some 14), none, (.call 86 [(.tmp 13), (.con (.func (.func 88) [] []))])⟩
  (.op ⟨(some 15), none, (.p (.lenl (.tmp 14)))⟩
  (.op ⟨(some 16), none, (.p (.val (.con (.int .i64 0))))⟩
  .done)))))))))
 (.block 0 (.loop (.seq (.ops [] (.op ⟨(some 17), none, (.p (.bin .lss (.tmp 16) (.tmp 15)))⟩
  .done))
 (.seq (.cond (.tmp 17)
 .skip
 (.exit 0))
 (.seq (.block 1 (.seq (.ops [] (.op ⟨(some 18), none, (.p (.iaddr 2 (.tmp 14) (.tmp 16)))⟩
  (.op ⟨(some 19), none, (.p (.loadi true 2 (.tmp 18)))⟩
  (.op ⟨(some 5), none, (.alloc [(.str []), (.str [])])⟩
  (.op ⟨(some 5), none, (.storef 5 2 (.tmp 19))⟩
  .done)))))
 (.seq (.ops [] (.op ⟨(some 20), none, (.p (.val (.tmp 0)))⟩
  (.op ⟨(some 21), none, (.p (.nilchk (.tmp 20)))⟩
  (.op ⟨(some 22), none, (.p (.faddr 1 (.tmp 21)))⟩
  (.op ⟨(some 23), none, (.p (.loadi false 1 (.tmp 22)))⟩
  (.op ⟨(some 24), none, (.p (.loadi true 2 (.tmp 5)))⟩
  (.op ⟨(some 25), none, (.mapget (.all [.s, .s]) false (.agg [(.slice true 2 [] .full), (.slice true 2 [] .full)]) (.tmp 23) (.tmp 24))⟩
  (.op ⟨(some 6), none, (.alloc [(.slice true 2 [] .full), (.slice true 2 [] .full)])⟩
  (.op ⟨(some 6), none, (.storef 6 2 (.tmp 25))⟩
  .done)))))))))
 (.ops [] (.op ⟨(some 26), none, (.p (.val (.tmp 3)))⟩
  (.op ⟨(some 27), none, (.p (.faddr 0 (.tmp 5)))⟩
  (.op ⟨(some 28), none, (.p (.loadi false 1 (.tmp 27)))⟩
  (.op ⟨(some 29), none, (.p (.faddr 0 (.tmp 6)))⟩
  (.op ⟨(some 30), none, (.p (.loadi false 1 (.tmp 29)))⟩
  (.op ⟨(some 32), none, (.p (.faddr 1 (.tmp 6)))⟩
  (.op ⟨(some 33), none, (.p (.loadi false 1 (.tmp 32)))⟩
  (.op ⟨(some 31), none, (.call 52 [(.tmp 30)])⟩
  (.op ⟨(some 34), none, (.call 89 [(.tmp 33)])⟩
  (.op ⟨(some 35), none, (.p (.build [(.slice true 2 [] .full), (.slice true 2 [] .full)] [(0, 1, (.tmp 31)), (1, 1, (.tmp 34))]))⟩
  (.op ⟨(some 36), none, (.p (.build [(.str []), (.slice true 2 [] .full), (.slice true 2 [] .full)] [(0, 1, (.tmp 28)), (1, 2, (.tmp 35))]))⟩
  (.op ⟨(some 37), none, (.p (.mks 3 [(.tmp 36)]))⟩
  (.op ⟨(some 38), none, (.append 3 64 (.tmp 26) (.tmp 37))⟩
  (.op ⟨(some 3), none, (.p (.val (.tmp 38)))⟩
  .done))))))))))))))))))
 (.ops [] (.op ⟨(some 39), none, (.p (.bin .add (.tmp 16) (.con (.int .i64 1))))⟩
  (.op ⟨(some 16), none, (.p (.val (.tmp 39)))⟩
  .done)))))))))
 (.seq (.ops [] (.op ⟨(some 40), none, (.p (.val (.tmp 3)))⟩
  (.op ⟨(some 2), none, (.p (.val (.tmp 40)))⟩
  .done)))
 .ret)))))⟩
theorem i38_is : compFunc Tryz.prog ⟨[5, 6], [], [5, 6, 0, 7, 9, 18, 20, 27, 29, 32, 10, 21, 11, 22]⟩ [] 38 = some i38 := by kernel_rfl

/-- baton/rpc.MayBatch -/
def i41 : IFn := ⟨1, 41, [.tmp 2],
 (.seq (.ops [] (.op ⟨(some 1), none, (.p (.boxi (.tmp 0)))⟩
  (.op ⟨(some 2), none, (.p (.val (.con (.bool false))))⟩
  .done)))
 (.seq (.ops [] (.op ⟨(some 5), none, (.p (.faddr 1 (.tmp 1)))⟩
  (.op ⟨(some 6), none, (.p (.loadi false 1 (.tmp 5)))⟩
  (.op ⟨(some 7), none, (.call 93 [(.tmp 6)])⟩
  (.op ⟨(some 8), none, (.p (.val (.tmp 7)))⟩
  (.op ⟨(some 9), (some (8, true)), (.p (.faddr 2 (.tmp 1)))⟩
  (.op ⟨(some 10), (some (8, true)), (.p (.loadi false 1 (.tmp 9)))⟩
  (.op ⟨(some 11), (some (8, true)), (.p (.bin .geq (.tmp 10) (.con (.int .i64 1))))⟩
  (.op ⟨(some 12), none, (.p (.pick (.tmp 8) (.tmp 11) (.con (.bool false))))⟩
  (.op ⟨(some 13), none, (.p (.val (.tmp 12)))⟩
  (.op ⟨(some 14), (some (13, true)), (.p (.faddr 2 (.tmp 1)))⟩
  (.op ⟨(some 15), (some (13, true)), (.p (.loadi false 1 (.tmp 14)))⟩
  (.op ⟨(some 16), (some (13, true)), (.p (.bin .leq (.tmp 15) (.con (.int .i64 1099511627776))))⟩
  (.op ⟨(some 17), none, (.p (.pick (.tmp 13) (.tmp 16) (.con (.bool false))))⟩
  (.op ⟨(some 3), none, (.p (.val (.tmp 17)))⟩
  .done)))))))))))))))
 (.seq (.seq (.ops [] (.op ⟨(some 18), none, (.p (.faddr 0 (.tmp 1)))⟩
  (.op ⟨(some 19), none, (.p (.loadi false 1 (.tmp 18)))⟩
  (.op ⟨(some 20), none, (.call 93 [(.tmp 19)])⟩
  (.op ⟨(some 21), none, (.p (.un .not (.tmp 20)))⟩
  (.op ⟨(some 22), none, (.p (.val (.tmp 21)))⟩
  (.op ⟨(some 23), (some (22, false)), (.p (.val (.tmp 3)))⟩
  (.op ⟨(some 24), (some (22, false)), (.p (.un .not (.tmp 23)))⟩
  (.op ⟨(some 25), (some (22, false)), (.p (.val (.tmp 24)))⟩
  (.op ⟨(some 26), (some (25, true)), (.p (.faddr 1 (.tmp 1)))⟩
  (.op ⟨(some 27), (some (25, true)), (.p (.loadi false 1 (.tmp 26)))⟩
  (.op ⟨(some 28), (some (25, true)), (.p (.bin .neq (.tmp 27) (.con (.str []))))⟩
  (.op ⟨(some 29), (some (25, true)), (.p (.val (.tmp 28)))⟩
  (.op ⟨(some 30), (some (29, false)), (.p (.faddr 2 (.tmp 1)))⟩
  (.op ⟨(some 31), (some (29, false)), (.p (.loadi false 1 (.tmp 30)))⟩
  (.op ⟨(some 32), (some (29, false)), (.p (.bin .neq (.tmp 31) (.con (.int .i64 0))))⟩
  (.op ⟨(some 33), (some (25, true)), (.p (.pick (.tmp 29) (.con (.bool true)) (.tmp 32)))⟩
  (.op ⟨(some 34), (some (22, false)), (.p (.pick (.tmp 25) (.tmp 33) (.con (.bool false))))⟩
  (.op ⟨(some 35), none, (.p (.pick (.tmp 22) (.con (.bool true)) (.tmp 34)))⟩
  .done)))))))))))))))))))
 (.cond (.tmp 35)
 (.seq (.ops [] (.op ⟨(some 2), none, (.p (.val (.con (.bool false))))⟩
  .done))
 .ret)
 .skip))
 (.seq (.ops [] (.op ⟨(some 4), none, (.alloc [.nilFunc])⟩
  (.op ⟨none, none, (.store 1 (.tmp 4) (.con (.func (.func 94) [] [])))⟩
  .done)))
 (.seq (.ops [] (.op ⟨(some 36), none, (.p (.faddr 3 (.tmp 1)))⟩
  (.op ⟨(some 37), none, (.p (.loadi false 1 (.tmp 36)))⟩
  (.op ⟨(some 38), none, (.p (.mkf (.func 96) [] [(.tmp 4)]))⟩
  (.op ⟨(some 39), none, (.call 95 [(.tmp 37), (.tmp 38)])⟩
  (.op ⟨(some 40), none, (.p (.un .not (.tmp 39)))⟩
  (.op ⟨(some 2), none, (.p (.val (.tmp 40)))⟩
  .done)))))))
 .ret)))))⟩
theorem i41_is : compFunc Tryz.prog ⟨[], [1], [1, 5, 9, 14, 18, 26, 30, 36]⟩ [] 41 = some i41 := by kernel_rfl

/-- baton/bits.PutText -/
def i42 : IFn := ⟨2, 12, [.tmp 4],
 (.seq (.ops [] (.op ⟨(some 4), none, (.p (.val (.con (.slice true 1 [] .full))))⟩
  .done))
 (.seq (.ops [] (.op ⟨(some 5), none, (.p (.val (.tmp 0)))⟩
  (.op ⟨(some 6), none, (.p (.val (.tmp 1)))⟩
  (.op ⟨(some 7), none, (.p (.lens (.tmp 6)))⟩
  (.op ⟨(some 8), none, (.p (.cvi .u64 (.tmp 7)))⟩
  (.op ⟨(some 9), none, (.call 43 [(.tmp 5), (.tmp 8)])⟩
  (.op ⟨(some 10), none, (.p (.val (.tmp 1)))⟩
  (.op ⟨(some 11), none, (.append 1 1 (.tmp 9) (.tmp 10))⟩
  (.op ⟨(some 4), none, (.p (.val (.tmp 11)))⟩
  .done)))))))))
 .ret))⟩
theorem i42_is : compFunc Tryz.prog ⟨[], [], []⟩ [] 42 = some i42 := by kernel_rfl

/-- baton/bits.PutUvarint -/
def i43 : IFn := ⟨2, 20, [.tmp 4],
 (.seq (.ops [] (.op ⟨(some 4), none, (.p (.val (.con (.slice true 1 [] .full))))⟩
  .done))
 (.seq (.block 0 (.loop (.seq (.seq (.ops [] (.op ⟨(some 5), none, (.p (.val (.tmp 1)))⟩
  (.op ⟨(some 6), none, (.p (.bin .geq (.tmp 5) (.con (.int .u64 128))))⟩
  .done)))
 (.cond (.tmp 6)
 .skip
 (.exit 0)))
 (.seq (.block 1 (.ops [] (.op ⟨(some 9), none, (.p (.val (.tmp 0)))⟩
  (.op ⟨(some 10), none, (.p (.val (.tmp 1)))⟩
  (.op ⟨(some 11), none, (.p (.cvi .u8 (.tmp 10)))⟩
  (.op ⟨(some 12), none, (.p (.bin .or (.tmp 11) (.con (.int .u8 128))))⟩
  (.op ⟨(some 13), none, (.p (.mks 1 [(.tmp 12)]))⟩
  (.op ⟨(some 14), none, (.append 1 1 (.tmp 9) (.tmp 13))⟩
  (.op ⟨(some 0), none, (.p (.val (.tmp 14)))⟩
  .done)))))))))
 (.ops [] (.op ⟨(some 7), none, (.p (.val (.tmp 1)))⟩
  (.op ⟨(some 8), none, (.p (.bin .shr (.tmp 7) (.con (.int .u64 7))))⟩
  (.op ⟨(some 1), none, (.p (.val (.tmp 8)))⟩
  .done))))))))
 (.seq (.ops [] (.op ⟨(some 15), none, (.p (.val (.tmp 0)))⟩
  (.op ⟨(some 16), none, (.p (.val (.tmp 1)))⟩
  (.op ⟨(some 17), none, (.p (.cvi .u8 (.tmp 16)))⟩
  (.op ⟨(some 18), none, (.p (.mks 1 [(.tmp 17)]))⟩
  (.op ⟨(some 19), none, (.append 1 1 (.tmp 15) (.tmp 18))⟩
  (.op ⟨(some 4), none, (.p (.val (.tmp 19)))⟩
  .done)))))))
 .ret)))⟩
theorem i43_is : compFunc Tryz.prog ⟨[], [], []⟩ [] 43 = some i43 := by kernel_rfl

/-- baton/pack.putSeries -/
def i44 : IFn := ⟨2, 45, [.tmp 4],
 (.seq (.ops [] (.op ⟨(some 3), none, (.p (.boxi (.tmp 1)))⟩
  (.op ⟨(some 4), none, (.p (.val (.con (.slice true 1 [] .full))))⟩
  .done)))
 (.seq (.ops [] (.op ⟨(some 8), none, (.p (.val (.tmp 0)))⟩
  (.op ⟨(some 9), none, (.p (.faddr 0 (.tmp 3)))⟩
  (.op ⟨(some 10), none, (.p (.loadi false 1 (.tmp 9)))⟩
  (.op ⟨(some 11), none, (.call 99 [(.tmp 10)])⟩
  (.op ⟨(some 12), none, (.call 42 [(.tmp 8), (.tmp 11)])⟩
  (.op ⟨(some 0), none, (.p (.val (.tmp 12)))⟩
  .done)))))))
 (.seq (.ops [] (.op ⟨(some 13), none, (.p (.val (.tmp 0)))⟩
  (.op ⟨(some 14), none, (.p (.faddr 1 (.tmp 3)))⟩
  (.op ⟨(some 15), none, (.p (.loadi false 1 (.tmp 14)))⟩
  (.op ⟨(some 16), none, (.p (.lenl (.tmp 15)))⟩
  (.op ⟨(some 17), none, (.p (.cvi .u64 (.tmp 16)))⟩
  (.op ⟨(some 18), none, (.call 43 [(.tmp 13), (.tmp 17)])⟩
  (.op ⟨(some 0), none, (.p (.val (.tmp 18)))⟩
  .done))))))))
 (.seq (.ops [] (.op ⟨(some 19), none, (.p (.build [(.int .i64 0), (.int .u64 0)] []))⟩
  (.op ⟨(some 5), none, (.alloc [(.int .i64 0), (.int .u64 0)])⟩
  (.op ⟨none, none, (.store 2 (.tmp 5) (.tmp 19))⟩
  .done))))
 (.seq (.seq (.ops [] (.op ⟨(some 20), none, (.p (.faddr 1 (.tmp 3)))⟩
  (.op ⟨(some 21), none, (.p (.loadi false 1 (.tmp 20)))⟩
  (.op ⟨(some 22), none, (.p (.lenl (.tmp 21)))⟩
  (.op ⟨(some 23), none, (.p (.val (.con (.int .i64 0))))⟩
  .done)))))
 (.block 0 (.loop (.seq (.ops [] (.op ⟨(some 24), none, (.p (.bin .lss (.tmp 23) (.tmp 22)))⟩
  .done))
 (.seq (.cond (.tmp 24)
 .skip
 (.exit 0))
 (.seq (.block 1 (.seq (.ops [] (.op ⟨(some 25), none, (.p (.iaddr 2 (.tmp 21) (.tmp 23)))⟩
  (.op ⟨(some 26), none, (.p (.loadi true 2 (.tmp 25)))⟩
  (.op ⟨(some 7), none, (.alloc [(.int .i64 0), (.int .u64 0)])⟩
  (.op ⟨(some 7), none, (.storef 7 2 (.tmp 26))⟩
  .done)))))
 (.seq (.ops [] (.op ⟨(some 27), none, (.p (.val (.tmp 0)))⟩
  (.op ⟨(some 28), none, (.p (.faddr 0 (.tmp 7)))⟩
  (.op ⟨(some 29), none, (.p (.loadi false 1 (.tmp 28)))⟩
  (.op ⟨(some 30), none, (.p (.faddr 0 (.tmp 5)))⟩
  (.op ⟨(some 31), none, (.load false 1 (.tmp 30))⟩
  (.op ⟨(some 32), none, (.p (.bin .sub (.tmp 29) (.tmp 31)))⟩
  (.op ⟨(some 33), none, (.call 100 [(.tmp 32)])⟩
  (.op ⟨(some 34), none, (.call 43 [(.tmp 27), (.tmp 33)])⟩
  (.op ⟨(some 0), none, (.p (.val (.tmp 34)))⟩
  .done))))))))))
 (.seq (.ops [] (.op ⟨(some 35), none, (.p (.val (.tmp 0)))⟩
  (.op ⟨(some 36), none, (.p (.faddr 1 (.tmp 7)))⟩
  (.op ⟨(some 37), none, (.p (.loadi false 1 (.tmp 36)))⟩
  (.op ⟨(some 38), none, (.p (.faddr 1 (.tmp 5)))⟩
  (.op ⟨(some 39), none, (.load false 1 (.tmp 38))⟩
  (.op ⟨(some 40), none, (.p (.bin .xor (.tmp 37) (.tmp 39)))⟩
  (.op ⟨(some 41), none, (.call 15 [(.tmp 35), (.tmp 40)])⟩
  (.op ⟨(some 0), none, (.p (.val (.tmp 41)))⟩
  .done)))))))))
 (.ops [] (.op ⟨(some 42), none, (.p (.loadi true 2 (.tmp 7)))⟩
  (.op ⟨none, none, (.store 2 (.tmp 5) (.tmp 42))⟩
  .done)))))))
 (.ops [] (.op ⟨(some 43), none, (.p (.bin .add (.tmp 23) (.con (.int .i64 1))))⟩
  (.op ⟨(some 23), none, (.p (.val (.tmp 43)))⟩
  .done)))))))))
 (.seq (.ops [] (.op ⟨(some 44), none, (.p (.val (.tmp 0)))⟩
  (.op ⟨(some 4), none, (.p (.val (.tmp 44)))⟩
  .done)))
 .ret))))))⟩
theorem i44_is : compFunc Tryz.prog ⟨[7], [3], [7, 3, 9, 14, 20, 25, 28, 36]⟩ [] 44 = some i44 := by kernel_rfl

/-- math/bits.TrailingZeros64 -/
def i49 : IFn := ⟨1, 14, [.tmp 2],
 (.seq (.ops [] (.op ⟨(some 2), none, (.p (.val (.con (.int .i64 0))))⟩
  .done))
 (.seq (.seq (.ops [] (.op ⟨(some 3), none, (.p (.val (.tmp 0)))⟩
  (.op ⟨(some 4), none, (.p (.bin .eql (.tmp 3) (.con (.int .u64 0))))⟩
  .done)))
 (.cond (.tmp 4)
 (.seq (.ops [] (.op ⟨(some 2), none, (.p (.val (.con (.int .i64 64))))⟩
  .done))
 .ret)
 .skip))
 (.seq (.ops [] (.op ⟨(some 5), none, (.p (.val (.tmp 0)))⟩
  (.op ⟨(some 6), none, (.p (.val (.tmp 0)))⟩
  (.op ⟨(some 7), none, (.p (.un .neg (.tmp 6)))⟩
  (.op ⟨(some 8), none, (.p (.bin .and (.tmp 5) (.tmp 7)))⟩
  (.op ⟨(some 9), none, (.p (.bin .mul (.tmp 8) (.con (.int .u64 285870213051353865))))⟩
  (.op ⟨(some 10), none, (.p (.bin .shr (.tmp 9) (.con (.int .u64 58))))⟩
  (.op ⟨(some 11), none, (.p (.iaddra 1 64 (.glob 0) (.tmp 10)))⟩
  (.op ⟨(some 12), none, (.load false 1 (.tmp 11))⟩
  (.op ⟨(some 13), none, (.p (.cvi .i64 (.tmp 12)))⟩
  (.op ⟨(some 2), none, (.p (.val (.tmp 13)))⟩
  .done)))))))))))
 .ret)))⟩
theorem i49_is : compFunc Tryz.prog ⟨[], [], []⟩ [] 49 = some i49 := by kernel_rfl

/-- math/bits.Len64 -/
def i50 : IFn := ⟨1, 25, [.tmp 2],
 (.seq (.ops [] (.op ⟨(some 2), none, (.p (.val (.con (.int .i64 0))))⟩
  .done))
 (.seq (.seq (.ops [] (.op ⟨(some 3), none, (.p (.val (.tmp 0)))⟩
  (.op ⟨(some 4), none, (.p (.bin .geq (.tmp 3) (.con (.int .u64 4294967296))))⟩
  .done)))
 (.cond (.tmp 4)
 (.seq (.ops [] (.op ⟨(some 5), none, (.p (.val (.tmp 0)))⟩
  (.op ⟨(some 6), none, (.p (.bin .shr (.tmp 5) (.con (.int .u64 32))))⟩
  (.op ⟨(some 0), none, (.p (.val (.tmp 6)))⟩
  .done))))
 (.ops [] (.op ⟨(some 2), none, (.p (.val (.con (.int .i64 32))))⟩
  .done)))
 .skip))
 (.seq (.seq (.ops [] (.op ⟨(some 7), none, (.p (.val (.tmp 0)))⟩
  (.op ⟨(some 8), none, (.p (.bin .geq (.tmp 7) (.con (.int .u64 65536))))⟩
  .done)))
 (.cond (.tmp 8)
 (.seq (.ops [] (.op ⟨(some 9), none, (.p (.val (.tmp 0)))⟩
  (.op ⟨(some 10), none, (.p (.bin .shr (.tmp 9) (.con (.int .u64 16))))⟩
  (.op ⟨(some 0), none, (.p (.val (.tmp 10)))⟩
  .done))))
 (.ops [] (.op ⟨(some 11), none, (.p (.val (.tmp 2)))⟩
  (.op ⟨(some 12), none, (.p (.bin .add (.tmp 11) (.con (.int .i64 16))))⟩
  (.op ⟨(some 2), none, (.p (.val (.tmp 12)))⟩
  .done)))))
 .skip))
 (.seq (.seq (.ops [] (.op ⟨(some 13), none, (.p (.val (.tmp 0)))⟩
  (.op ⟨(some 14), none, (.p (.bin .geq (.tmp 13) (.con (.int .u64 256))))⟩
  .done)))
 (.cond (.tmp 14)
 (.seq (.ops [] (.op ⟨(some 15), none, (.p (.val (.tmp 0)))⟩
  (.op ⟨(some 16), none, (.p (.bin .shr (.tmp 15) (.con (.int .u64 8))))⟩
  (.op ⟨(some 0), none, (.p (.val (.tmp 16)))⟩
  .done))))
 (.ops [] (.op ⟨(some 17), none, (.p (.val (.tmp 2)))⟩
  (.op ⟨(some 18), none, (.p (.bin .add (.tmp 17) (.con (.int .i64 8))))⟩
  (.op ⟨(some 2), none, (.p (.val (.tmp 18)))⟩
  .done)))))
 .skip))
 (.seq (.ops [] (.op ⟨(some 19), none, (.p (.val (.tmp 2)))⟩
  (.op ⟨(some 20), none, (.p (.val (.tmp 0)))⟩
  (.op ⟨(some 21), none, (.p (.cvi .u8 (.tmp 20)))⟩
  (.op ⟨(some 22), none, (.p (.idxs (.con (.str [0, 1, 2, 2, 3, 3, 3, 3, 4, 4, 4, 4, 4, 4, 4, 4, 5, 5, 5, 5, 5, 5, 5, 5, 5, 5, 5, 5, 5, 5, 5, 5, 6, 6, 6, 6, 6, 6, 6, 6, 6, 6, 6, 6, 6, 6, 6, 6, 6, 6, 6, 6, 6, 6, 6, 6, 6, 6, 6, 6, 6, 6, 6, 6, 7, 7, 7, 7, 7, 7, 7, 7, 7, 7, 7, 7, 7, 7, 7, 7, 7, 7, 7, 7, 7, 7, 7, 7, 7, 7, 7, 7, 7, 7, 7, 7, 7, 7, 7, 7, 7, 7, 7, 7, 7, 7, 7, 7, 7, 7, 7, 7, 7, 7, 7, 7, 7, 7, 7, 7, 7, 7, 7, 7, 7, 7, 7, 7, 8, 8, 8, 8, 8, 8, 8, 8, 8, 8, 8, 8, 8, 8, 8, 8, 8, 8, 8, 8, 8, 8, 8, 8, 8, 8, 8, 8, 8, 8, 8, 8, 8, 8, 8, 8, 8, 8, 8, 8, 8, 8, 8, 8, 8, 8, 8, 8, 8, 8, 8, 8, 8, 8, 8, 8, 8, 8, 8, 8, 8, 8, 8, 8, 8, 8, 8, 8, 8, 8, 8, 8, 8, 8, 8, 8, 8, 8, 8, 8, 8, 8, 8, 8, 8, 8, 8, 8, 8, 8, 8, 8, 8, 8, 8, 8, 8, 8, 8, 8, 8, 8, 8, 8, 8, 8, 8, 8, 8, 8, 8, 8, 8, 8, 8, 8, 8, 8, 8, 8, 8, 8, 8, 8, 8, 8, 8, 8])) (.tmp 21)))⟩
  (.op ⟨(some 23), none, (.p (.cvi .i64 (.tmp 22)))⟩
  (.op ⟨(some 24), none, (.p (.bin .add (.tmp 19) (.tmp 23)))⟩
  (.op ⟨(some 2), none, (.p (.val (.tmp 24)))⟩
  .done))))))))
 .ret)))))⟩
theorem i50_is : compFunc Tryz.prog ⟨[], [], []⟩ [] 50 = some i50 := by kernel_rfl

/-- slices.Clone[[]baton/api.Label,baton/api.Label] -/
def i52 : IFn := ⟨1, 8, [.tmp 2],
 (.seq (.ops [] (.op ⟨(some 2), none, (.p (.val (.con (.slice true 2 [] .full))))⟩
  .done))
 (.seq (.seq (.ops [] (.op ⟨(some 3), none, (.p (.val (.tmp 0)))⟩
  (.op ⟨(some 4), none, (.p (.eqn .s false (.tmp 3) (.con (.slice true 2 [] .full))))⟩
  .done)))
 (.cond (.tmp 4)
 (.seq (.ops [] (.op ⟨(some 2), none, (.p (.val (.con (.slice true 2 [] .full))))⟩
  .done))
 .ret)
 .skip))
 (.seq (.ops [] (.op ⟨(some 5), none, (.p (.mks 2 []))⟩
  (.op ⟨(some 6), none, (.p (.val (.tmp 0)))⟩
  (.op ⟨(some 7), none, (.append 2 32 (.tmp 5) (.tmp 6))⟩
  (.op ⟨(some 2), none, (.p (.val (.tmp 7)))⟩
  .done)))))
 .ret)))⟩
theorem i52_is : compFunc Tryz.prog ⟨[], [], []⟩ [] 52 = some i52 := by kernel_rfl

/-- (*baton/fence.State).Fences -/
def i57 : IFn := ⟨1, 35, [.tmp 2],
 (.seq (.ops [] (.op ⟨(some 2), none, (.p (.val (.con (.slice true 3 [] .full))))⟩
  .done))
 (.seq (.seq (.ops [] (.op ⟨(some 6), none, (.p (.val (.tmp 0)))⟩
  (.op ⟨(some 7), none, (.p (.eqn .p false (.tmp 6) (.con .nilptr)))⟩
  .done)))
 (.cond (.tmp 7)
 (.seq (.ops [] (.op ⟨(some 2), none, (.p (.val (.con (.slice true 3 [] .full))))⟩
  .done))
 .ret)
 .skip))
 (.seq (.ops [] (.op ⟨(some 3), none, (.p (.val (.con (.slice true 3 [] .full))))⟩
  .done))
 (.seq (.seq (.ops [] (.op ⟨(some 8), none, (.p (.val (.tmp 0)))⟩
  (.op ⟨(some 9), none, (.p (.nilchk (.tmp 8)))⟩
  (.op ⟨(some 10), none, (.p (.faddr 0 (.tmp 9)))⟩
  (.op ⟨(some 11), none, (.p (.loadi false 1 (.tmp 10)))⟩
  (.op ⟨(some 12), none, (.call 109 [(.tmp 11)])⟩
  (.op ⟨(some 13), none, (.call 86 [(.tmp 12), (.con (.func (.func 88) [] []))])⟩
  (.op ⟨(some 14), none, (.p (.lenl (.tmp 13)))⟩
  (.op ⟨(some 15), none, (.p (.val (.con (.int .i64 0))))⟩
  .done)))))))))
 (.block 0 (.loop (.seq (.ops [] (.op ⟨(some 16), none, (.p (.bin .lss (.tmp 15) (.tmp 14)))⟩
  .done))
 (.seq (.cond (.tmp 16)
 .skip
 (.exit 0))
 (.seq (.block 1 (.seq (.ops [] (.op ⟨(some 17), none, (.p (.iaddr 2 (.tmp 13) (.tmp 15)))⟩
  (.op ⟨(some 18), none, (.p (.loadi true 2 (.tmp 17)))⟩
  (.op ⟨(some 5), none, (.alloc [(.str []), (.str [])])⟩
  (.op ⟨(some 5), none, (.storef 5 2 (.tmp 18))⟩
  .done)))))
 (.ops [] (.op ⟨(some 19), none, (.p (.val (.tmp 3)))⟩
  (.op ⟨(some 20), none, (.p (.faddr 0 (.tmp 5)))⟩
  (.op ⟨(some 21), none, (.p (.loadi false 1 (.tmp 20)))⟩
  (.op ⟨(some 22), none, (.p (.faddr 1 (.tmp 5)))⟩
  (.op ⟨(some 23), none, (.p (.loadi false 1 (.tmp 22)))⟩
  (.op ⟨(some 24), none, (.p (.val (.tmp 0)))⟩
  (.op ⟨(some 25), none, (.p (.nilchk (.tmp 24)))⟩
  (.op ⟨(some 26), none, (.p (.faddr 0 (.tmp 25)))⟩
  (.op ⟨(some 27), none, (.p (.loadi false 1 (.tmp 26)))⟩
  (.op ⟨(some 28), none, (.p (.loadi true 2 (.tmp 5)))⟩
  (.op ⟨(some 29), none, (.mapget (.all [.s, .s]) false (.int .i64 0) (.tmp 27) (.tmp 28))⟩
  (.op ⟨(some 30), none, (.p (.build [(.str []), (.str []), (.int .i64 0)] [(0, 1, (.tmp 21)), (1, 1, (.tmp 23)), (2, 1, (.tmp 29))]))⟩
  (.op ⟨(some 31), none, (.p (.mks 3 [(.tmp 30)]))⟩
  (.op ⟨(some 32), none, (.append 3 40 (.tmp 19) (.tmp 31))⟩
  (.op ⟨(some 3), none, (.p (.val (.tmp 32)))⟩
  .done))))))))))))))))))
 (.ops [] (.op ⟨(some 33), none, (.p (.bin .add (.tmp 15) (.con (.int .i64 1))))⟩
  (.op ⟨(some 15), none, (.p (.val (.tmp 33)))⟩
  .done)))))))))
 (.seq (.ops [] (.op ⟨(some 34), none, (.p (.val (.tmp 3)))⟩
  (.op ⟨(some 2), none, (.p (.val (.tmp 34)))⟩
  .done)))
 .ret)))))⟩
theorem i57_is : compFunc Tryz.prog ⟨[5], [], [5, 0, 6, 8, 17, 20, 22, 24, 9, 25, 10, 26]⟩ [] 57 = some i57 := by kernel_rfl

/-- baton/bits.PutFixed -/
def i58 : IFn := ⟨3, 22, [.tmp 6],
 (.seq (.ops [] (.op ⟨(some 6), none, (.p (.val (.con (.slice true 1 [] .full))))⟩
  .done))
 (.seq (.seq (.ops [] (.op ⟨(some 7), none, (.p (.val (.tmp 2)))⟩
  .done))
 (.block 0 (.seq (.ops [] (.op ⟨(some 9), none, (.p (.bin .eql (.tmp 7) (.con (.int .i64 4))))⟩
  (.op ⟨(some 8), none, (.p (.val (.tmp 9)))⟩
  .done)))
 (.cond (.tmp 8)
 (.seq (.ops [] (.op ⟨(some 10), none, (.p (.val (.tmp 0)))⟩
  (.op ⟨(some 11), none, (.p (.val (.tmp 1)))⟩
  (.op ⟨(some 12), none, (.p (.cvi .u32 (.tmp 11)))⟩
  (.op ⟨(some 13), none, (.p (.val (.tmp 2)))⟩
  (.op ⟨(some 14), none, (.call 110 [(.tmp 10), (.tmp 12), (.tmp 13)])⟩
  (.op ⟨(some 6), none, (.p (.val (.tmp 14)))⟩
  .done)))))))
 .ret)
 (.seq (.ops [] (.op ⟨(some 16), none, (.p (.bin .eql (.tmp 7) (.con (.int .i64 8))))⟩
  (.op ⟨(some 15), none, (.p (.val (.tmp 16)))⟩
  .done)))
 (.cond (.tmp 15)
 (.seq (.ops [] (.op ⟨(some 17), none, (.p (.val (.tmp 0)))⟩
  (.op ⟨(some 18), none, (.p (.val (.tmp 1)))⟩
  (.op ⟨(some 19), none, (.p (.val (.tmp 2)))⟩
  (.op ⟨(some 20), none, (.call 111 [(.tmp 17), (.tmp 18), (.tmp 19)])⟩
  (.op ⟨(some 6), none, (.p (.val (.tmp 20)))⟩
  .done))))))
 .ret)
 .skip))))))
 (.seq (.ops [] (.op ⟨(some 21), none, (.p (.val (.tmp 0)))⟩
  (.op ⟨(some 6), none, (.p (.val (.tmp 21)))⟩
  .done)))
 .ret)))⟩
theorem i58_is : compFunc Tryz.prog ⟨[], [], []⟩ [] 58 = some i58 := by kernel_rfl

/-- baton/sum.Mask -/
def i59 : IFn := ⟨1, 6, [.tmp 2],
 (.seq (.ops [] (.op ⟨(some 2), none, (.p (.val (.con (.int .u32 0))))⟩
  .done))
 (.seq (.ops [] (.op ⟨(some 3), none, (.p (.val (.tmp 0)))⟩
  (.op ⟨(some 4), none, (.call 112 [(.tmp 3), (.con (.int .i64 (-15)))])⟩
  (.op ⟨(some 5), none, (.p (.bin .add (.tmp 4) (.con (.int .u32 2726488792))))⟩
  (.op ⟨(some 2), none, (.p (.val (.tmp 5)))⟩
  .done)))))
 .ret))⟩
theorem i59_is : compFunc Tryz.prog ⟨[], [], []⟩ [] 59 = some i59 := by kernel_rfl

/-- baton/sum.Of -/
def i60 : IFn := ⟨1, 5, [.tmp 2],
 (.seq (.ops [] (.op ⟨(some 2), none, (.p (.val (.con (.int .u32 0))))⟩
  .done))
 (.seq (.ops [] (.op ⟨(some 3), none, (.p (.val (.tmp 0)))⟩
  (.op ⟨(some 4), none, (.call 113 [(.con (.int .u32 0)), (.tmp 3)])⟩
  (.op ⟨(some 2), none, (.p (.val (.tmp 4)))⟩
  .done))))
 .ret))⟩
theorem i60_is : compFunc Tryz.prog ⟨[], [], []⟩ [] 60 = some i60 := by kernel_rfl

/-- baton/pack.readBatch -/
def i61 : IFn := ⟨1, 43, [.cell 2 true 4, .cell 3 false 1],
 (.seq (.ops [2, 3] (.op ⟨(some 2), none, (.alloc [(.str []), (.str []), (.int .i64 0), (.slice true 2 [] .full)])⟩
  (.op ⟨(some 3), none, (.alloc [(.int .i64 0)])⟩
  .done)))
 (.seq (.ops [2, 3] (.op ⟨none, none, (.defer (.con (.func (.func 77) [] [])) [(.tmp 3)])⟩
  .done))
 (.seq (.ops [2, 3] (.op ⟨(some 6), none, (.p (.val (.tmp 0)))⟩
  (.op ⟨(some 7), none, (.call 78 [(.tmp 6)])⟩
  (.op ⟨(some 8), none, (.p (.build [.nilptr] [(0, 1, (.tmp 7))]))⟩
  (.op ⟨(some 4), none, (.alloc [.nilptr])⟩
  (.op ⟨(some 4), none, (.storef 4 1 (.tmp 8))⟩
  .done))))))
 (.seq (.ops [2, 3] (.op ⟨(some 9), none, (.p (.loadi true 1 (.tmp 4)))⟩
  (.op ⟨(some 11), none, (.p (.loadi true 1 (.tmp 4)))⟩
  (.op ⟨(some 10), none, (.call 114 [(.tmp 9), (.con (.int .i64 24))])⟩
  (.op ⟨(some 13), none, (.p (.faddr 0 (.tmp 2)))⟩
  (.op ⟨(some 12), none, (.call 114 [(.tmp 11), (.con (.int .i64 24))])⟩
  (.op ⟨none, none, (.store 1 (.tmp 13) (.tmp 10))⟩
  (.op ⟨(some 14), none, (.p (.faddr 1 (.tmp 2)))⟩
  (.op ⟨none, none, (.store 1 (.tmp 14) (.tmp 12))⟩
  .done)))))))))
 (.seq (.ops [2, 3] (.op ⟨(some 15), none, (.p (.loadi true 1 (.tmp 4)))⟩
  (.op ⟨(some 16), none, (.call 115 [(.tmp 15), (.con (.int .u64 1099511627776))])⟩
  (.op ⟨(some 17), none, (.p (.cvi .i64 (.tmp 16)))⟩
  (.op ⟨(some 18), none, (.p (.faddr 2 (.tmp 2)))⟩
  (.op ⟨none, none, (.store 1 (.tmp 18) (.tmp 17))⟩
  .done))))))
 (.seq (.seq (.ops [2, 3] (.op ⟨(some 19), none, (.p (.loadi true 1 (.tmp 4)))⟩
  (.op ⟨(some 20), none, (.call 115 [(.tmp 19), (.con (.int .u64 4294967295))])⟩
  (.op ⟨(some 5), none, (.p (.val (.tmp 20)))⟩
  .done))))
 (.block 0 (.loop (.seq (.seq (.ops [2, 3] (.op ⟨(some 21), none, (.p (.val (.tmp 5)))⟩
  (.op ⟨(some 22), none, (.p (.bin .gtr (.tmp 21) (.con (.int .u64 0))))⟩
  .done)))
 (.cond (.tmp 22)
 .skip
 (.exit 0)))
 (.seq (.block 1 (.ops [2, 3] (.op ⟨(some 25), none, (.p (.faddr 3 (.tmp 2)))⟩
  (.op ⟨(some 27), none, (.p (.loadi true 1 (.tmp 4)))⟩
  (.br
  (.op ⟨(some 26), none, (.load false 1 (.tmp 25))⟩
  (.op ⟨(some 28), none, (.call 116 [(.tmp 27)])⟩
  (.op ⟨(some 29), none, (.p (.mks 2 [(.tmp 28)]))⟩
  (.op ⟨(some 30), none, (.append 2 48 (.tmp 26) (.tmp 29))⟩
  (.op ⟨(some 31), none, (.p (.faddr 3 (.tmp 2)))⟩
  (.op ⟨none, none, (.store 1 (.tmp 31) (.tmp 30))⟩
  .done))))))
  (.op ⟨(some 28), none, (.call 116 [(.tmp 27)])⟩
  (.op ⟨(some 26), none, (.load false 1 (.tmp 25))⟩
  (.op ⟨(some 29), none, (.p (.mks 2 [(.tmp 28)]))⟩
  (.op ⟨(some 30), none, (.append 2 48 (.tmp 26) (.tmp 29))⟩
  (.op ⟨(some 31), none, (.p (.faddr 3 (.tmp 2)))⟩
  (.op ⟨none, none, (.store 1 (.tmp 31) (.tmp 30))⟩
  .done)))))))))))
 (.ops [2, 3] (.op ⟨(some 23), none, (.p (.val (.tmp 5)))⟩
  (.op ⟨(some 24), none, (.p (.bin .sub (.tmp 23) (.con (.int .u64 1))))⟩
  (.op ⟨(some 5), none, (.p (.val (.tmp 24)))⟩
  .done)))))))))
 (.seq (.ops [2, 3] (.op ⟨(some 32), none, (.p (.faddr 0 (.tmp 4)))⟩
  (.op ⟨(some 33), none, (.p (.loadi false 1 (.tmp 32)))⟩
  (.op ⟨(some 34), none, (.call 118 [(.tmp 33)])⟩
  (.op ⟨(some 35), none, (.p (.bin .gtr (.tmp 34) (.con (.int .i64 0))))⟩
  (.op ⟨(some 36), none, (.p (.val (.tmp 35)))⟩
  (.op ⟨(some 37), (some (36, false)), (.load true 4 (.tmp 2))⟩
  (.op ⟨(some 38), (some (36, false)), (.call 41 [(.tmp 37)])⟩
  (.op ⟨(some 39), (some (36, false)), (.p (.un .not (.tmp 38)))⟩
  (.op ⟨(some 40), none, (.p (.pick (.tmp 36) (.con (.bool true)) (.tmp 39)))⟩
  (.op ⟨(some 41), none, (.call 117 [(.tmp 40)])⟩
  .done)))))))))))
 (.seq (.ops [2, 3] (.op ⟨(some 42), none, (.load true 4 (.tmp 2))⟩
  (.op ⟨none, none, (.store 4 (.tmp 2) (.tmp 42))⟩
  (.op ⟨none, none, (.store 1 (.tmp 3) (.con (.int .i64 0)))⟩
  .done))))
 .ret))))))))⟩
theorem i61_is : compFunc Tryz.prog ⟨[4], [], [4, 32]⟩ [2, 3] 61 = some i61 := by kernel_rfl

/-- baton/batonref06.Same -/
def i62 : IFn := ⟨2, 27, [.tmp 4],
 (.seq (.ops [] (.op ⟨(some 4), none, (.p (.val (.con (.bool false))))⟩
  .done))
 (.seq (.seq (.ops [] (.op ⟨(some 6), none, (.p (.val (.tmp 0)))⟩
  (.op ⟨(some 7), none, (.p (.lenl (.tmp 6)))⟩
  (.op ⟨(some 8), none, (.p (.val (.tmp 1)))⟩
  (.op ⟨(some 9), none, (.p (.lenl (.tmp 8)))⟩
  (.op ⟨(some 10), none, (.p (.bin .neq (.tmp 7) (.tmp 9)))⟩
  .done))))))
 (.cond (.tmp 10)
 (.seq (.ops [] (.op ⟨(some 4), none, (.p (.val (.con (.bool false))))⟩
  .done))
 .ret)
 .skip))
 (.seq (.seq (.ops [] (.op ⟨(some 5), none, (.p (.val (.con (.int .i64 0))))⟩
  .done))
 (.block 0 (.loop (.seq (.seq (.ops [] (.op ⟨(some 11), none, (.p (.val (.tmp 5)))⟩
  (.op ⟨(some 12), none, (.p (.val (.tmp 0)))⟩
  (.op ⟨(some 13), none, (.p (.lenl (.tmp 12)))⟩
  (.op ⟨(some 14), none, (.p (.bin .lss (.tmp 11) (.tmp 13)))⟩
  .done)))))
 (.cond (.tmp 14)
 .skip
 (.exit 0)))
 (.seq (.block 1 (.seq (.ops [] (.op ⟨(some 17), none, (.p (.val (.tmp 0)))⟩
  (.op ⟨(some 18), none, (.p (.val (.tmp 5)))⟩
  (.op ⟨(some 19), none, (.p (.iaddr 2 (.tmp 17) (.tmp 18)))⟩
  (.op ⟨(some 20), none, (.p (.loadi true 2 (.tmp 19)))⟩
  (.op ⟨(some 21), none, (.p (.val (.tmp 1)))⟩
  (.op ⟨(some 22), none, (.p (.val (.tmp 5)))⟩
  (.op ⟨(some 23), none, (.p (.iaddr 2 (.tmp 21) (.tmp 22)))⟩
  (.op ⟨(some 24), none, (.p (.loadi true 2 (.tmp 23)))⟩
  (.op ⟨(some 25), none, (.call 76 [(.tmp 20), (.tmp 24)])⟩
  (.op ⟨(some 26), none, (.p (.un .not (.tmp 25)))⟩
  .done)))))))))))
 (.cond (.tmp 26)
 (.seq (.ops [] (.op ⟨(some 4), none, (.p (.val (.con (.bool false))))⟩
  .done))
 .ret)
 .skip)))
 (.ops [] (.op ⟨(some 15), none, (.p (.val (.tmp 5)))⟩
  (.op ⟨(some 16), none, (.p (.bin .add (.tmp 15) (.con (.int .i64 1))))⟩
  (.op ⟨(some 5), none, (.p (.val (.tmp 16)))⟩
  .done)))))))))
 (.seq (.ops [] (.op ⟨(some 4), none, (.p (.val (.con (.bool true))))⟩
  .done))
 .ret))))⟩
theorem i62_is : compFunc Tryz.prog ⟨[], [], [19, 23]⟩ [] 62 = some i62 := by kernel_rfl

/-- baton/batonlaw24.row -/
def i63 : IFn := ⟨1, 27, [.tmp 2],
 (.seq (.ops [] (.op ⟨(some 2), none, (.p (.val (.con (.slice true 2 [] .full))))⟩
  .done))
 (.seq (.ops [] (.op ⟨(some 3), none, (.p (.val (.con (.slice true 2 [] .full))))⟩
  .done))
 (.seq (.seq (.ops [] (.op ⟨(some 4), none, (.p (.val (.con (.int .i64 0))))⟩
  .done))
 (.block 0 (.loop (.seq (.seq (.ops [] (.op ⟨(some 5), none, (.p (.val (.tmp 4)))⟩
  (.op ⟨(some 6), none, (.p (.bin .add (.tmp 5) (.con (.int .i64 1))))⟩
  (.op ⟨(some 7), none, (.p (.val (.tmp 0)))⟩
  (.op ⟨(some 8), none, (.p (.lenl (.tmp 7)))⟩
  (.op ⟨(some 9), none, (.p (.bin .lss (.tmp 6) (.tmp 8)))⟩
  .done))))))
 (.cond (.tmp 9)
 .skip
 (.exit 0)))
 (.seq (.block 1 (.ops [] (.op ⟨(some 12), none, (.p (.val (.tmp 3)))⟩
  (.op ⟨(some 13), none, (.p (.val (.tmp 0)))⟩
  (.op ⟨(some 14), none, (.p (.val (.tmp 4)))⟩
  (.op ⟨(some 15), none, (.p (.iaddr 1 (.tmp 13) (.tmp 14)))⟩
  (.op ⟨(some 16), none, (.p (.loadi false 1 (.tmp 15)))⟩
  (.op ⟨(some 17), none, (.p (.val (.tmp 0)))⟩
  (.op ⟨(some 18), none, (.p (.val (.tmp 4)))⟩
  (.op ⟨(some 19), none, (.p (.bin .add (.tmp 18) (.con (.int .i64 1))))⟩
  (.op ⟨(some 20), none, (.p (.iaddr 1 (.tmp 17) (.tmp 19)))⟩
  (.op ⟨(some 21), none, (.p (.loadi false 1 (.tmp 20)))⟩
  (.op ⟨(some 22), none, (.p (.cvi .u64 (.tmp 21)))⟩
  (.op ⟨(some 23), none, (.p (.build [(.int .i64 0), (.int .u64 0)] [(0, 1, (.tmp 16)), (1, 1, (.tmp 22))]))⟩
  (.op ⟨(some 24), none, (.p (.mks 2 [(.tmp 23)]))⟩
  (.op ⟨(some 25), none, (.append 2 16 (.tmp 12) (.tmp 24))⟩
  (.op ⟨(some 3), none, (.p (.val (.tmp 25)))⟩
  .done)))))))))))))))))
 (.ops [] (.op ⟨(some 10), none, (.p (.val (.tmp 4)))⟩
  (.op ⟨(some 11), none, (.p (.bin .add (.tmp 10) (.con (.int .i64 2))))⟩
  (.op ⟨(some 4), none, (.p (.val (.tmp 11)))⟩
  .done)))))))))
 (.seq (.ops [] (.op ⟨(some 26), none, (.p (.val (.tmp 3)))⟩
  (.op ⟨(some 2), none, (.p (.val (.tmp 26)))⟩
  .done)))
 .ret))))⟩
theorem i63_is : compFunc Tryz.prog ⟨[], [], [15, 20]⟩ [] 63 = some i63 := by kernel_rfl

/-- baton/batonref02.Mask -/
def i65 : IFn := ⟨1, 19, [.tmp 2],
 (.seq (.ops [] (.op ⟨(some 2), none, (.p (.val (.con (.int .u32 0))))⟩
  .done))
 (.seq (.seq (.ops [] (.op ⟨(some 3), none, (.p (.val (.con (.int .i64 0))))⟩
  .done))
 (.block 0 (.loop (.seq (.seq (.ops [] (.op ⟨(some 4), none, (.p (.val (.tmp 3)))⟩
  (.op ⟨(some 5), none, (.p (.bin .lss (.tmp 4) (.con (.int .i64 15))))⟩
  .done)))
 (.cond (.tmp 5)
 .skip
 (.exit 0)))
 (.seq (.block 1 (.ops [] (.op ⟨(some 8), none, (.p (.val (.tmp 0)))⟩
  (.op ⟨(some 9), none, (.p (.bin .quo (.tmp 8) (.con (.int .u32 2))))⟩
  (.op ⟨(some 10), none, (.p (.val (.tmp 0)))⟩
  (.op ⟨(some 11), none, (.p (.bin .rem (.tmp 10) (.con (.int .u32 2))))⟩
  (.op ⟨(some 12), none, (.p (.bin .mul (.tmp 11) (.con (.int .u32 2147483648))))⟩
  (.op ⟨(some 13), none, (.p (.bin .add (.tmp 9) (.tmp 12)))⟩
  (.op ⟨(some 0), none, (.p (.val (.tmp 13)))⟩
  .done)))))))))
 (.ops [] (.op ⟨(some 6), none, (.p (.val (.tmp 3)))⟩
  (.op ⟨(some 7), none, (.p (.bin .add (.tmp 6) (.con (.int .i64 1))))⟩
  (.op ⟨(some 3), none, (.p (.val (.tmp 7)))⟩
  .done)))))))))
 (.seq (.ops [] (.op ⟨(some 14), none, (.p (.val (.tmp 0)))⟩
  (.op ⟨(some 15), none, (.p (.cvi .u64 (.tmp 14)))⟩
  (.op ⟨(some 16), none, (.p (.bin .add (.tmp 15) (.con (.int .u64 2726488792))))⟩
  (.op ⟨(some 17), none, (.p (.bin .rem (.tmp 16) (.con (.int .u64 4294967296))))⟩
  (.op ⟨(some 18), none, (.p (.cvi .u32 (.tmp 17)))⟩
  (.op ⟨(some 2), none, (.p (.val (.tmp 18)))⟩
  .done)))))))
 .ret)))⟩
theorem i65_is : compFunc Tryz.prog ⟨[], [], []⟩ [] 65 = some i65 := by kernel_rfl

/-- baton/batonref02.Of -/
def i66 : IFn := ⟨1, 5, [.tmp 2],
 (.seq (.ops [] (.op ⟨(some 2), none, (.p (.val (.con (.int .u32 0))))⟩
  .done))
 (.seq (.ops [] (.op ⟨(some 3), none, (.p (.val (.tmp 0)))⟩
  (.op ⟨(some 4), none, (.call 119 [(.con (.int .u32 0)), (.tmp 3)])⟩
  (.op ⟨(some 2), none, (.p (.val (.tmp 4)))⟩
  .done))))
 .ret))⟩
theorem i66_is : compFunc Tryz.prog ⟨[], [], []⟩ [] 66 = some i66 := by kernel_rfl

/-- baton/bits.Fixed -/
def i71 : IFn := ⟨3, 57, [.tmp 6, .tmp 7, .tmp 8],
 (.seq (.ops [] (.op ⟨(some 6), none, (.p (.val (.con (.int .u64 0))))⟩
  (.op ⟨(some 7), none, (.p (.val (.con (.int .i64 0))))⟩
  (.op ⟨(some 8), none, (.p (.val (.con (.int .i64 0))))⟩
  .done))))
 (.seq (.block 0 (.seq (.ops [] (.op ⟨(some 10), none, (.p (.val (.tmp 2)))⟩
  (.op ⟨(some 11), none, (.p (.bin .neq (.tmp 10) (.con (.int .i64 4))))⟩
  (.op ⟨(some 12), none, (.p (.val (.tmp 11)))⟩
  (.op ⟨(some 13), (some (12, true)), (.p (.val (.tmp 2)))⟩
  (.op ⟨(some 14), (some (12, true)), (.p (.bin .neq (.tmp 13) (.con (.int .i64 8))))⟩
  (.op ⟨(some 15), none, (.p (.pick (.tmp 12) (.tmp 14) (.con (.bool false))))⟩
  (.op ⟨(some 16), none, (.p (.val (.tmp 15)))⟩
  (.op ⟨(some 17), (some (16, false)), (.p (.val (.tmp 1)))⟩
  (.op ⟨(some 18), (some (16, false)), (.p (.bin .lss (.tmp 17) (.con (.int .i64 0))))⟩
  (.op ⟨(some 19), none, (.p (.pick (.tmp 16) (.con (.bool true)) (.tmp 18)))⟩
  (.op ⟨(some 20), none, (.p (.val (.tmp 19)))⟩
  (.op ⟨(some 21), (some (20, false)), (.p (.val (.tmp 1)))⟩
  (.op ⟨(some 22), (some (20, false)), (.p (.val (.tmp 0)))⟩
  (.op ⟨(some 23), (some (20, false)), (.p (.lens (.tmp 22)))⟩
  (.op ⟨(some 24), (some (20, false)), (.p (.bin .gtr (.tmp 21) (.tmp 23)))⟩
  (.op ⟨(some 25), none, (.p (.pick (.tmp 20) (.con (.bool true)) (.tmp 24)))⟩
  (.op ⟨(some 9), none, (.p (.val (.tmp 25)))⟩
  .done))))))))))))))))))
 (.cond (.tmp 9)
 (.seq (.ops [] (.op ⟨(some 6), none, (.p (.val (.con (.int .u64 0))))⟩
  (.op ⟨(some 7), none, (.p (.val (.con (.int .i64 0))))⟩
  (.op ⟨(some 8), none, (.p (.val (.con (.int .i64 1))))⟩
  .done))))
 .ret)
 (.seq (.ops [] (.op ⟨(some 27), none, (.p (.val (.tmp 0)))⟩
  (.op ⟨(some 28), none, (.p (.lens (.tmp 27)))⟩
  (.op ⟨(some 29), none, (.p (.val (.tmp 1)))⟩
  (.op ⟨(some 30), none, (.p (.bin .sub (.tmp 28) (.tmp 29)))⟩
  (.op ⟨(some 31), none, (.p (.val (.tmp 2)))⟩
  (.op ⟨(some 32), none, (.p (.bin .lss (.tmp 30) (.tmp 31)))⟩
  (.op ⟨(some 26), none, (.p (.val (.tmp 32)))⟩
  .done))))))))
 (.cond (.tmp 26)
 (.seq (.ops [] (.op ⟨(some 6), none, (.p (.val (.con (.int .u64 0))))⟩
  (.op ⟨(some 7), none, (.p (.val (.con (.int .i64 0))))⟩
  (.op ⟨(some 8), none, (.p (.val (.con (.int .i64 8))))⟩
  .done))))
 .ret)
 (.seq (.ops [] (.op ⟨(some 34), none, (.p (.val (.tmp 2)))⟩
  (.op ⟨(some 35), none, (.p (.bin .eql (.tmp 34) (.con (.int .i64 4))))⟩
  (.op ⟨(some 33), none, (.p (.val (.tmp 35)))⟩
  .done))))
 (.cond (.tmp 33)
 (.seq (.ops [] (.op ⟨(some 36), none, (.p (.val (.tmp 0)))⟩
  (.op ⟨(some 37), none, (.p (.val (.tmp 1)))⟩
  (.op ⟨(some 38), none, (.p (.val (.tmp 1)))⟩
  (.op ⟨(some 39), none, (.p (.val (.tmp 2)))⟩
  (.op ⟨(some 40), none, (.p (.bin .add (.tmp 38) (.tmp 39)))⟩
  (.op ⟨(some 41), none, (.p (.sls (.tmp 36) (some (.tmp 37)) (some (.tmp 40))))⟩
  (.op ⟨(some 42), none, (.call 125 [(.tmp 41)])⟩
  (.op ⟨(some 43), none, (.p (.cvi .u64 (.tmp 42)))⟩
  (.op ⟨(some 44), none, (.p (.val (.tmp 1)))⟩
  (.op ⟨(some 45), none, (.p (.val (.tmp 2)))⟩
  (.op ⟨(some 46), none, (.p (.bin .add (.tmp 44) (.tmp 45)))⟩
  (.op ⟨(some 6), none, (.p (.val (.tmp 43)))⟩
  (.op ⟨(some 7), none, (.p (.val (.tmp 46)))⟩
  (.op ⟨(some 8), none, (.p (.val (.con (.int .i64 0))))⟩
  .done)))))))))))))))
 .ret)
 .skip)))))))
 (.seq (.ops [] (.op ⟨(some 47), none, (.p (.val (.tmp 0)))⟩
  (.op ⟨(some 48), none, (.p (.val (.tmp 1)))⟩
  (.op ⟨(some 49), none, (.p (.val (.tmp 1)))⟩
  (.op ⟨(some 50), none, (.p (.val (.tmp 2)))⟩
  (.op ⟨(some 51), none, (.p (.bin .add (.tmp 49) (.tmp 50)))⟩
  (.op ⟨(some 52), none, (.p (.sls (.tmp 47) (some (.tmp 48)) (some (.tmp 51))))⟩
  (.op ⟨(some 53), none, (.call 126 [(.tmp 52)])⟩
  (.op ⟨(some 54), none, (.p (.val (.tmp 1)))⟩
  (.op ⟨(some 55), none, (.p (.val (.tmp 2)))⟩
  (.op ⟨(some 56), none, (.p (.bin .add (.tmp 54) (.tmp 55)))⟩
  (.op ⟨(some 6), none, (.p (.val (.tmp 53)))⟩
  (.op ⟨(some 7), none, (.p (.val (.tmp 56)))⟩
  (.op ⟨(some 8), none, (.p (.val (.con (.int .i64 0))))⟩
  .done))))))))))))))
 .ret)))⟩
theorem i71_is : compFunc Tryz.prog ⟨[], [], []⟩ [] 71 = some i71 := by kernel_rfl

/-- baton/sum.Same -/
def i72 : IFn := ⟨2, 10, [.tmp 4],
 (.seq (.ops [] (.op ⟨(some 4), none, (.p (.val (.con (.bool false))))⟩
  .done))
 (.seq (.ops [] (.op ⟨(some 5), none, (.p (.val (.tmp 0)))⟩
  (.op ⟨(some 6), none, (.call 60 [(.tmp 5)])⟩
  (.op ⟨(some 7), none, (.call 59 [(.tmp 6)])⟩
  (.op ⟨(some 8), none, (.p (.val (.tmp 1)))⟩
  (.op ⟨(some 9), none, (.p (.bin .eql (.tmp 7) (.tmp 8)))⟩
  (.op ⟨(some 4), none, (.p (.val (.tmp 9)))⟩
  .done)))))))
 .ret))⟩
theorem i72_is : compFunc Tryz.prog ⟨[], [], []⟩ [] 72 = some i72 := by kernel_rfl

/-- baton/pack.parts -/
def i73 : IFn := ⟨1, 55, [.tmp 2, .tmp 3, .cell 4 false 1],
 (.seq (.ops [2, 3, 4] (.op ⟨(some 2), none, (.p (.val (.con (.slice true 3 [] .full))))⟩
  (.op ⟨(some 3), none, (.p (.val (.con (.slice true 3 [] .full))))⟩
  (.op ⟨(some 4), none, (.alloc [(.int .i64 0)])⟩
  .done))))
 (.seq (.ops [2, 3, 4] (.op ⟨none, none, (.defer (.con (.func (.func 77) [] [])) [(.tmp 4)])⟩
  .done))
 (.seq (.ops [2, 3, 4] (.op ⟨(some 10), none, (.p (.val (.tmp 0)))⟩
  (.op ⟨(some 11), none, (.call 78 [(.tmp 10)])⟩
  (.op ⟨(some 12), none, (.p (.build [.nilptr] [(0, 1, (.tmp 11))]))⟩
  (.op ⟨(some 5), none, (.alloc [.nilptr])⟩
  (.op ⟨(some 5), none, (.storef 5 1 (.tmp 12))⟩
  .done))))))
 (.seq (.seq (.ops [2, 3, 4] (.op ⟨(some 13), none, (.p (.loadi true 1 (.tmp 5)))⟩
  (.op ⟨(some 14), none, (.call 115 [(.tmp 13), (.con (.int .u64 4294967295))])⟩
  (.op ⟨(some 6), none, (.p (.val (.tmp 14)))⟩
  .done))))
 (.block 0 (.loop (.seq (.seq (.ops [2, 3, 4] (.op ⟨(some 15), none, (.p (.val (.tmp 6)))⟩
  (.op ⟨(some 16), none, (.p (.bin .gtr (.tmp 15) (.con (.int .u64 0))))⟩
  .done)))
 (.cond (.tmp 16)
 .skip
 (.exit 0)))
 (.seq (.block 1 (.seq (.ops [2, 3, 4] (.op ⟨(some 19), none, (.p (.loadi true 1 (.tmp 5)))⟩
  (.op ⟨(some 21), none, (.p (.loadi true 1 (.tmp 5)))⟩
  (.br
  (.op ⟨(some 20), none, (.call 114 [(.tmp 19), (.con (.int .i64 24))])⟩
  (.br
  (.op ⟨(some 22), none, (.call 114 [(.tmp 21), (.con (.int .i64 24))])⟩
  (.op ⟨(some 23), none, (.p (.build [(.str []), (.str []), (.int .i64 0)] [(0, 1, (.tmp 20)), (1, 1, (.tmp 22))]))⟩
  (.op ⟨(some 7), none, (.alloc [(.str []), (.str []), (.int .i64 0)])⟩
  (.op ⟨none, none, (.store 3 (.tmp 7) (.tmp 23))⟩
  .done))))
  (.op ⟨(some 7), none, (.alloc [(.str []), (.str []), (.int .i64 0)])⟩
  (.op ⟨(some 22), none, (.call 114 [(.tmp 21), (.con (.int .i64 24))])⟩
  (.op ⟨(some 23), none, (.p (.build [(.str []), (.str []), (.int .i64 0)] [(0, 1, (.tmp 20)), (1, 1, (.tmp 22))]))⟩
  (.op ⟨none, none, (.store 3 (.tmp 7) (.tmp 23))⟩
  .done))))))
  (.op ⟨(some 7), none, (.alloc [(.str []), (.str []), (.int .i64 0)])⟩
  (.op ⟨(some 20), none, (.call 114 [(.tmp 19), (.con (.int .i64 24))])⟩
  (.op ⟨(some 22), none, (.call 114 [(.tmp 21), (.con (.int .i64 24))])⟩
  (.op ⟨(some 23), none, (.p (.build [(.str []), (.str []), (.int .i64 0)] [(0, 1, (.tmp 20)), (1, 1, (.tmp 22))]))⟩
  (.op ⟨none, none, (.store 3 (.tmp 7) (.tmp 23))⟩
  .done)))))))))
 (.seq (.ops [2, 3, 4] (.op ⟨(some 24), none, (.p (.loadi true 1 (.tmp 5)))⟩
  (.op ⟨(some 25), none, (.call 115 [(.tmp 24), (.con (.int .u64 1099511627776))])⟩
  (.op ⟨(some 26), none, (.p (.cvi .i64 (.tmp 25)))⟩
  (.op ⟨(some 27), none, (.p (.faddr 2 (.tmp 7)))⟩
  (.op ⟨none, none, (.store 1 (.tmp 27) (.tmp 26))⟩
  .done))))))
 (.ops [2, 3, 4] (.op ⟨(some 28), none, (.p (.val (.tmp 2)))⟩
  (.op ⟨(some 29), none, (.load true 3 (.tmp 7))⟩
  (.op ⟨(some 30), none, (.p (.mks 3 [(.tmp 29)]))⟩
  (.op ⟨(some 31), none, (.append 3 40 (.tmp 28) (.tmp 30))⟩
  (.op ⟨(some 2), none, (.p (.val (.tmp 31)))⟩
  .done)))))))))
 (.ops [2, 3, 4] (.op ⟨(some 17), none, (.p (.val (.tmp 6)))⟩
  (.op ⟨(some 18), none, (.p (.bin .sub (.tmp 17) (.con (.int .u64 1))))⟩
  (.op ⟨(some 6), none, (.p (.val (.tmp 18)))⟩
  .done)))))))))
 (.seq (.seq (.ops [2, 3, 4] (.op ⟨(some 32), none, (.p (.loadi true 1 (.tmp 5)))⟩
  (.op ⟨(some 33), none, (.call 115 [(.tmp 32), (.con (.int .u64 4294967295))])⟩
  (.op ⟨(some 8), none, (.p (.val (.tmp 33)))⟩
  .done))))
 (.block 2 (.loop (.seq (.seq (.ops [2, 3, 4] (.op ⟨(some 34), none, (.p (.val (.tmp 8)))⟩
  (.op ⟨(some 35), none, (.p (.bin .gtr (.tmp 34) (.con (.int .u64 0))))⟩
  .done)))
 (.cond (.tmp 35)
 .skip
 (.exit 2)))
 (.seq (.block 3 (.seq (.ops [2, 3, 4] (.op ⟨(some 38), none, (.p (.loadi true 1 (.tmp 5)))⟩
  (.op ⟨(some 39), none, (.call 114 [(.tmp 38), (.con (.int .i64 24))])⟩
  (.op ⟨(some 40), none, (.p (.build [(.str []), (.slice true 2 [] .full), (.slice true 2 [] .full)] [(0, 1, (.tmp 39))]))⟩
  (.op ⟨(some 9), none, (.alloc [(.str []), (.slice true 2 [] .full), (.slice true 2 [] .full)])⟩
  (.op ⟨none, none, (.store 3 (.tmp 9) (.tmp 40))⟩
  .done))))))
 (.seq (.ops [2, 3, 4] (.op ⟨(some 41), none, (.p (.loadi true 1 (.tmp 5)))⟩
  (.op ⟨(some 42), none, (.call 116 [(.tmp 41)])⟩
  (.op ⟨(some 43), none, (.p (.faddr 1 (.tmp 9)))⟩
  (.op ⟨none, none, (.store 2 (.tmp 43) (.tmp 42))⟩
  .done)))))
 (.ops [2, 3, 4] (.op ⟨(some 44), none, (.p (.val (.tmp 3)))⟩
  (.op ⟨(some 45), none, (.load true 3 (.tmp 9))⟩
  (.op ⟨(some 46), none, (.p (.mks 3 [(.tmp 45)]))⟩
  (.op ⟨(some 47), none, (.append 3 64 (.tmp 44) (.tmp 46))⟩
  (.op ⟨(some 3), none, (.p (.val (.tmp 47)))⟩
  .done)))))))))
 (.ops [2, 3, 4] (.op ⟨(some 36), none, (.p (.val (.tmp 8)))⟩
  (.op ⟨(some 37), none, (.p (.bin .sub (.tmp 36) (.con (.int .u64 1))))⟩
  (.op ⟨(some 8), none, (.p (.val (.tmp 37)))⟩
  .done)))))))))
 (.seq (.ops [2, 3, 4] (.op ⟨(some 48), none, (.p (.faddr 0 (.tmp 5)))⟩
  (.op ⟨(some 49), none, (.p (.loadi false 1 (.tmp 48)))⟩
  (.op ⟨(some 50), none, (.call 118 [(.tmp 49)])⟩
  (.op ⟨(some 51), none, (.p (.bin .gtr (.tmp 50) (.con (.int .i64 0))))⟩
  (.op ⟨(some 52), none, (.call 117 [(.tmp 51)])⟩
  .done))))))
 (.seq (.ops [2, 3, 4] (.op ⟨(some 53), none, (.p (.val (.tmp 2)))⟩
  (.op ⟨(some 54), none, (.p (.val (.tmp 3)))⟩
  (.op ⟨(some 2), none, (.p (.val (.tmp 53)))⟩
  (.op ⟨(some 3), none, (.p (.val (.tmp 54)))⟩
  (.op ⟨none, none, (.store 1 (.tmp 4) (.con (.int .i64 0)))⟩
  .done))))))
 .ret)))))))⟩
theorem i73_is : compFunc Tryz.prog ⟨[5], [], [5, 48]⟩ [2, 3, 4] 73 = some i73 := by kernel_rfl

/-- baton/fence.Of -/
def i74 : IFn := ⟨2, 95, [.tmp 4, .tmp 5],
 (.seq (.ops [] (.op ⟨(some 4), none, (.p (.val (.con .nilptr)))⟩
  (.op ⟨(some 5), none, (.p (.val (.con (.int .i64 0))))⟩
  .done)))
 (.seq (.ops [] (.op ⟨(some 14), none, (.call 17 [])⟩
  (.op ⟨(some 6), none, (.p (.val (.tmp 14)))⟩
  .done)))
 (.seq (.ops [] (.op ⟨(some 7), none, (.alloc [(.str []), (.str [])])⟩
  .done))
 (.seq (.seq (.ops [] (.op ⟨(some 15), none, (.p (.val (.tmp 0)))⟩
  (.op ⟨(some 16), none, (.p (.lenl (.tmp 15)))⟩
  (.op ⟨(some 17), none, (.p (.val (.con (.int .i64 0))))⟩
  .done))))
 (.block 0 (.loop (.seq (.ops [] (.op ⟨(some 18), none, (.p (.bin .lss (.tmp 17) (.tmp 16)))⟩
  .done))
 (.seq (.cond (.tmp 18)
 .skip
 (.exit 0))
 (.seq (.block 1 (.seq (.ops [] (.op ⟨(some 19), none, (.p (.val (.tmp 17)))⟩
  (.op ⟨(some 20), none, (.p (.iaddr 3 (.tmp 15) (.tmp 17)))⟩
  (.op ⟨(some 21), none, (.p (.loadi true 3 (.tmp 20)))⟩
  (.op ⟨(some 9), none, (.alloc [(.str []), (.str []), (.int .i64 0)])⟩
  (.op ⟨(some 8), none, (.p (.val (.tmp 19)))⟩
  (.op ⟨(some 9), none, (.storef 9 3 (.tmp 21))⟩
  .done)))))))
 (.seq (.ops [] (.op ⟨(some 22), none, (.p (.faddr 0 (.tmp 9)))⟩
  (.op ⟨(some 23), none, (.p (.loadi false 1 (.tmp 22)))⟩
  (.op ⟨(some 24), none, (.p (.faddr 1 (.tmp 9)))⟩
  (.op ⟨(some 25), none, (.p (.loadi false 1 (.tmp 24)))⟩
  (.op ⟨(some 26), none, (.p (.build [(.str []), (.str [])] [(0, 1, (.tmp 23)), (1, 1, (.tmp 25))]))⟩
  (.op ⟨(some 10), none, (.alloc [(.str []), (.str [])])⟩
  (.op ⟨(some 10), none, (.storef 10 2 (.tmp 26))⟩
  .done))))))))
 (.seq (.seq (.ops [] (.op ⟨(some 27), none, (.p (.loadi true 3 (.tmp 9)))⟩
  (.op ⟨(some 28), none, (.call 127 [(.tmp 27)])⟩
  (.op ⟨(some 29), none, (.p (.un .not (.tmp 28)))⟩
  (.op ⟨(some 30), none, (.p (.val (.tmp 29)))⟩
  (.op ⟨(some 31), (some (30, false)), (.p (.val (.tmp 8)))⟩
  (.op ⟨(some 32), (some (30, false)), (.p (.bin .gtr (.tmp 31) (.con (.int .i64 0))))⟩
  (.op ⟨(some 33), (some (30, false)), (.p (.val (.tmp 32)))⟩
  (.op ⟨(some 34), (some (33, true)), (.load true 2 (.tmp 7))⟩
  (.op ⟨(some 35), (some (33, true)), (.p (.loadi true 2 (.tmp 10)))⟩
  (.op ⟨(some 36), (some (33, true)), (.call 128 [(.tmp 34), (.tmp 35)])⟩
  (.op ⟨(some 37), (some (33, true)), (.p (.un .not (.tmp 36)))⟩
  (.op ⟨(some 38), (some (30, false)), (.p (.pick (.tmp 33) (.tmp 37) (.con (.bool false))))⟩
  (.op ⟨(some 39), none, (.p (.pick (.tmp 30) (.con (.bool true)) (.tmp 38)))⟩
  .done))))))))))))))
 (.cond (.tmp 39)
 (.seq (.ops [] (.op ⟨(some 4), none, (.p (.val (.con .nilptr)))⟩
  (.op ⟨(some 5), none, (.p (.val (.con (.int .i64 4))))⟩
  .done)))
 .ret)
 .skip))
 (.ops [] (.op ⟨(some 40), none, (.p (.val (.tmp 6)))⟩
  (.op ⟨(some 41), none, (.p (.nilchk (.tmp 40)))⟩
  (.op ⟨(some 42), none, (.p (.faddr 0 (.tmp 41)))⟩
  (.op ⟨(some 43), none, (.load false 1 (.tmp 42))⟩
  (.op ⟨(some 44), none, (.p (.loadi true 2 (.tmp 10)))⟩
  (.op ⟨(some 45), none, (.p (.faddr 2 (.tmp 9)))⟩
  (.op ⟨(some 46), none, (.p (.loadi false 1 (.tmp 45)))⟩
  (.op ⟨(some 47), none, (.p (.loadi true 2 (.tmp 10)))⟩
  (.op ⟨(some 48), none, (.ment (.all [.s, .s]) (.int .i64 0) (.tmp 43) (.tmp 44))⟩
  (.op ⟨(some 49), none, (.p (.ext 1 (.tmp 48)))⟩
  (.op ⟨none, none, (.entst (.tmp 43) (.tmp 49) (.tmp 46))⟩
  (.op ⟨none, none, (.store 2 (.tmp 7) (.tmp 47))⟩
  .done)))))))))))))))))
 (.ops [] (.op ⟨(some 50), none, (.p (.bin .add (.tmp 17) (.con (.int .i64 1))))⟩
  (.op ⟨(some 17), none, (.p (.val (.tmp 50)))⟩
  .done)))))))))
 (.seq (.seq (.ops [] (.op ⟨(some 51), none, (.p (.val (.tmp 1)))⟩
  (.op ⟨(some 52), none, (.p (.lenl (.tmp 51)))⟩
  (.op ⟨(some 53), none, (.p (.val (.con (.int .i64 0))))⟩
  .done))))
 (.block 2 (.loop (.seq (.ops [] (.op ⟨(some 54), none, (.p (.bin .lss (.tmp 53) (.tmp 52)))⟩
  .done))
 (.seq (.cond (.tmp 54)
 .skip
 (.exit 2))
 (.seq (.block 3 (.seq (.ops [] (.op ⟨(some 55), none, (.p (.val (.tmp 53)))⟩
  (.op ⟨(some 56), none, (.p (.iaddr 3 (.tmp 51) (.tmp 53)))⟩
  (.op ⟨(some 57), none, (.p (.loadi true 3 (.tmp 56)))⟩
  (.op ⟨(some 12), none, (.alloc [(.str []), (.slice true 2 [] .full), (.slice true 2 [] .full)])⟩
  (.op ⟨(some 11), none, (.p (.val (.tmp 55)))⟩
  (.op ⟨(some 12), none, (.storef 12 3 (.tmp 57))⟩
  .done)))))))
 (.seq (.seq (.ops [] (.op ⟨(some 58), none, (.p (.loadi true 3 (.tmp 12)))⟩
  (.op ⟨(some 59), none, (.call 129 [(.tmp 58)])⟩
  (.op ⟨(some 60), none, (.p (.un .not (.tmp 59)))⟩
  .done))))
 (.cond (.tmp 60)
 (.seq (.ops [] (.op ⟨(some 4), none, (.p (.val (.con .nilptr)))⟩
  (.op ⟨(some 5), none, (.p (.val (.con (.int .i64 4))))⟩
  .done)))
 .ret)
 .skip))
 (.seq (.ops [] (.op ⟨(some 61), none, (.p (.faddr 0 (.tmp 12)))⟩
  (.op ⟨(some 62), none, (.p (.loadi false 1 (.tmp 61)))⟩
  (.op ⟨(some 63), none, (.p (.faddr 1 (.tmp 12)))⟩
  (.op ⟨(some 64), none, (.p (.faddr 0 (.tmp 63)))⟩
  (.op ⟨(some 65), none, (.p (.loadi false 1 (.tmp 64)))⟩
  (.br
  (.op ⟨(some 66), none, (.call 99 [(.tmp 65)])⟩
  (.op ⟨(some 67), none, (.p (.build [(.str []), (.str [])] [(0, 1, (.tmp 62)), (1, 1, (.tmp 66))]))⟩
  (.op ⟨(some 13), none, (.alloc [(.str []), (.str [])])⟩
  (.op ⟨(some 13), none, (.storef 13 2 (.tmp 67))⟩
  .done))))
  (.op ⟨(some 13), none, (.alloc [(.str []), (.str [])])⟩
  (.op ⟨(some 66), none, (.call 99 [(.tmp 65)])⟩
  (.op ⟨(some 67), none, (.p (.build [(.str []), (.str [])] [(0, 1, (.tmp 62)), (1, 1, (.tmp 66))]))⟩
  (.op ⟨(some 13), none, (.storef 13 2 (.tmp 67))⟩
  .done)))))))))))
 (.seq (.seq (.ops [] (.op ⟨(some 68), none, (.p (.val (.tmp 11)))⟩
  (.op ⟨(some 69), none, (.p (.bin .gtr (.tmp 68) (.con (.int .i64 0))))⟩
  (.op ⟨(some 70), none, (.p (.val (.tmp 69)))⟩
  (.op ⟨(some 71), (some (70, true)), (.load true 2 (.tmp 7))⟩
  (.op ⟨(some 72), (some (70, true)), (.p (.loadi true 2 (.tmp 13)))⟩
  (.op ⟨(some 73), (some (70, true)), (.call 128 [(.tmp 71), (.tmp 72)])⟩
  (.op ⟨(some 74), (some (70, true)), (.p (.un .not (.tmp 73)))⟩
  (.op ⟨(some 75), none, (.p (.pick (.tmp 70) (.tmp 74) (.con (.bool false))))⟩
  .done)))))))))
 (.cond (.tmp 75)
 (.seq (.ops [] (.op ⟨(some 4), none, (.p (.val (.con .nilptr)))⟩
  (.op ⟨(some 5), none, (.p (.val (.con (.int .i64 4))))⟩
  .done)))
 .ret)
 .skip))
 (.ops [] (.op ⟨(some 76), none, (.p (.val (.tmp 6)))⟩
  (.op ⟨(some 77), none, (.p (.nilchk (.tmp 76)))⟩
  (.op ⟨(some 78), none, (.p (.faddr 1 (.tmp 77)))⟩
  (.op ⟨(some 80), none, (.p (.loadi true 2 (.tmp 13)))⟩
  (.op ⟨(some 81), none, (.p (.faddr 1 (.tmp 12)))⟩
  (.op ⟨(some 82), none, (.p (.faddr 0 (.tmp 81)))⟩
  (.op ⟨(some 83), none, (.p (.loadi false 1 (.tmp 82)))⟩
  (.op ⟨(some 85), none, (.p (.faddr 1 (.tmp 12)))⟩
  (.op ⟨(some 86), none, (.p (.faddr 1 (.tmp 85)))⟩
  (.op ⟨(some 87), none, (.p (.loadi false 1 (.tmp 86)))⟩
  (.op ⟨(some 90), none, (.p (.loadi true 2 (.tmp 13)))⟩
  (.br
  (.op ⟨(some 79), none, (.load false 1 (.tmp 78))⟩
  (.op ⟨(some 84), none, (.call 52 [(.tmp 83)])⟩
  (.op ⟨(some 88), none, (.call 89 [(.tmp 87)])⟩
  (.op ⟨(some 89), none, (.p (.build [(.slice true 2 [] .full), (.slice true 2 [] .full)] [(0, 1, (.tmp 84)), (1, 1, (.tmp 88))]))⟩
  (.op ⟨(some 91), none, (.ment (.all [.s, .s]) (.agg [(.slice true 2 [] .full), (.slice true 2 [] .full)]) (.tmp 79) (.tmp 80))⟩
  (.op ⟨(some 92), none, (.p (.ext 1 (.tmp 91)))⟩
  (.op ⟨none, none, (.entst (.tmp 79) (.tmp 92) (.tmp 89))⟩
  (.op ⟨none, none, (.store 2 (.tmp 7) (.tmp 90))⟩
  .done))))))))
  (.op ⟨(some 84), none, (.call 52 [(.tmp 83)])⟩
  (.br
  (.op ⟨(some 79), none, (.load false 1 (.tmp 78))⟩
  (.op ⟨(some 88), none, (.call 89 [(.tmp 87)])⟩
  (.op ⟨(some 89), none, (.p (.build [(.slice true 2 [] .full), (.slice true 2 [] .full)] [(0, 1, (.tmp 84)), (1, 1, (.tmp 88))]))⟩
  (.op ⟨(some 91), none, (.ment (.all [.s, .s]) (.agg [(.slice true 2 [] .full), (.slice true 2 [] .full)]) (.tmp 79) (.tmp 80))⟩
  (.op ⟨(some 92), none, (.p (.ext 1 (.tmp 91)))⟩
  (.op ⟨none, none, (.entst (.tmp 79) (.tmp 92) (.tmp 89))⟩
  (.op ⟨none, none, (.store 2 (.tmp 7) (.tmp 90))⟩
  .done)))))))
  (.op ⟨(some 88), none, (.call 89 [(.tmp 87)])⟩
  (.op ⟨(some 79), none, (.load false 1 (.tmp 78))⟩
  (.op ⟨(some 89), none, (.p (.build [(.slice true 2 [] .full), (.slice true 2 [] .full)] [(0, 1, (.tmp 84)), (1, 1, (.tmp 88))]))⟩
  (.op ⟨(some 91), none, (.ment (.all [.s, .s]) (.agg [(.slice true 2 [] .full), (.slice true 2 [] .full)]) (.tmp 79) (.tmp 80))⟩
  (.op ⟨(some 92), none, (.p (.ext 1 (.tmp 91)))⟩
  (.op ⟨none, none, (.entst (.tmp 79) (.tmp 92) (.tmp 89))⟩
  (.op ⟨none, none, (.store 2 (.tmp 7) (.tmp 90))⟩
  .done)))))))))))))))))))))))))))
 (.ops [] (.op ⟨(some 93), none, (.p (.bin .add (.tmp 53) (.con (.int .i64 1))))⟩
  (.op ⟨(some 53), none, (.p (.val (.tmp 93)))⟩
  .done)))))))))
 (.seq (.ops [] (.op ⟨(some 94), none, (.p (.val (.tmp 6)))⟩
  (.op ⟨(some 4), none, (.p (.val (.tmp 94)))⟩
  (.op ⟨(some 5), none, (.p (.val (.con (.int .i64 0))))⟩
  .done))))
 .ret))))))⟩
theorem i74_is : compFunc Tryz.prog ⟨[9, 10, 12, 13], [], [9, 10, 12, 13, 20, 22, 24, 45, 56, 61, 63, 81, 85, 64, 82, 86]⟩ [] 74 = some i74 := by kernel_rfl

/-- baton/batonref06.Alike -/
def i76 : IFn := ⟨2, 59, [.tmp 4],
 (.seq (.ops [] (.op ⟨(some 2), none, (.p (.boxi (.tmp 0)))⟩
  (.op ⟨(some 3), none, (.p (.boxi (.tmp 1)))⟩
  (.op ⟨(some 4), none, (.p (.val (.con (.bool false))))⟩
  .done))))
 (.seq (.seq (.ops [] (.op ⟨(some 7), none, (.p (.faddr 0 (.tmp 2)))⟩
  (.op ⟨(some 8), none, (.p (.loadi false 1 (.tmp 7)))⟩
  (.op ⟨(some 9), none, (.p (.lenl (.tmp 8)))⟩
  (.op ⟨(some 10), none, (.p (.faddr 0 (.tmp 3)))⟩
  (.op ⟨(some 11), none, (.p (.loadi false 1 (.tmp 10)))⟩
  (.op ⟨(some 12), none, (.p (.lenl (.tmp 11)))⟩
  (.op ⟨(some 13), none, (.p (.bin .neq (.tmp 9) (.tmp 12)))⟩
  (.op ⟨(some 14), none, (.p (.val (.tmp 13)))⟩
  (.op ⟨(some 15), (some (14, false)), (.p (.faddr 1 (.tmp 2)))⟩
  (.op ⟨(some 16), (some (14, false)), (.p (.loadi false 1 (.tmp 15)))⟩
  (.op ⟨(some 17), (some (14, false)), (.p (.lenl (.tmp 16)))⟩
  (.op ⟨(some 18), (some (14, false)), (.p (.faddr 1 (.tmp 3)))⟩
  (.op ⟨(some 19), (some (14, false)), (.p (.loadi false 1 (.tmp 18)))⟩
  (.op ⟨(some 20), (some (14, false)), (.p (.lenl (.tmp 19)))⟩
  (.op ⟨(some 21), (some (14, false)), (.p (.bin .neq (.tmp 17) (.tmp 20)))⟩
  (.op ⟨(some 22), none, (.p (.pick (.tmp 14) (.con (.bool true)) (.tmp 21)))⟩
  .done)))))))))))))))))
 (.cond (.tmp 22)
 (.seq (.ops [] (.op ⟨(some 4), none, (.p (.val (.con (.bool false))))⟩
  .done))
 .ret)
 .skip))
 (.seq (.seq (.ops [] (.op ⟨(some 5), none, (.p (.val (.con (.int .i64 0))))⟩
  .done))
 (.block 0 (.loop (.seq (.seq (.ops [] (.op ⟨(some 23), none, (.p (.val (.tmp 5)))⟩
  (.op ⟨(some 24), none, (.p (.faddr 0 (.tmp 2)))⟩
  (.op ⟨(some 25), none, (.p (.loadi false 1 (.tmp 24)))⟩
  (.op ⟨(some 26), none, (.p (.lenl (.tmp 25)))⟩
  (.op ⟨(some 27), none, (.p (.bin .lss (.tmp 23) (.tmp 26)))⟩
  .done))))))
 (.cond (.tmp 27)
 .skip
 (.exit 0)))
 (.seq (.block 1 (.seq (.ops [] (.op ⟨(some 30), none, (.p (.faddr 0 (.tmp 2)))⟩
  (.op ⟨(some 31), none, (.p (.loadi false 1 (.tmp 30)))⟩
  (.op ⟨(some 32), none, (.p (.val (.tmp 5)))⟩
  (.op ⟨(some 33), none, (.p (.iaddr 2 (.tmp 31) (.tmp 32)))⟩
  (.op ⟨(some 34), none, (.p (.loadi true 2 (.tmp 33)))⟩
  (.op ⟨(some 35), none, (.p (.faddr 0 (.tmp 3)))⟩
  (.op ⟨(some 36), none, (.p (.loadi false 1 (.tmp 35)))⟩
  (.op ⟨(some 37), none, (.p (.val (.tmp 5)))⟩
  (.op ⟨(some 38), none, (.p (.iaddr 2 (.tmp 36) (.tmp 37)))⟩
  (.op ⟨(some 39), none, (.p (.loadi true 2 (.tmp 38)))⟩
  (.op ⟨(some 40), none, (.p (.eqd (.all [.s, .s]) true (.tmp 34) (.tmp 39)))⟩
  .done))))))))))))
 (.cond (.tmp 40)
 (.seq (.ops [] (.op ⟨(some 4), none, (.p (.val (.con (.bool false))))⟩
  .done))
 .ret)
 .skip)))
 (.ops [] (.op ⟨(some 28), none, (.p (.val (.tmp 5)))⟩
  (.op ⟨(some 29), none, (.p (.bin .add (.tmp 28) (.con (.int .i64 1))))⟩
  (.op ⟨(some 5), none, (.p (.val (.tmp 29)))⟩
  .done)))))))))
 (.seq (.seq (.ops [] (.op ⟨(some 6), none, (.p (.val (.con (.int .i64 0))))⟩
  .done))
 (.block 2 (.loop (.seq (.seq (.ops [] (.op ⟨(some 41), none, (.p (.val (.tmp 6)))⟩
  (.op ⟨(some 42), none, (.p (.faddr 1 (.tmp 2)))⟩
  (.op ⟨(some 43), none, (.p (.loadi false 1 (.tmp 42)))⟩
  (.op ⟨(some 44), none, (.p (.lenl (.tmp 43)))⟩
  (.op ⟨(some 45), none, (.p (.bin .lss (.tmp 41) (.tmp 44)))⟩
  .done))))))
 (.cond (.tmp 45)
 .skip
 (.exit 2)))
 (.seq (.block 3 (.seq (.ops [] (.op ⟨(some 48), none, (.p (.faddr 1 (.tmp 2)))⟩
  (.op ⟨(some 49), none, (.p (.loadi false 1 (.tmp 48)))⟩
  (.op ⟨(some 50), none, (.p (.val (.tmp 6)))⟩
  (.op ⟨(some 51), none, (.p (.iaddr 2 (.tmp 49) (.tmp 50)))⟩
  (.op ⟨(some 52), none, (.p (.loadi true 2 (.tmp 51)))⟩
  (.op ⟨(some 53), none, (.p (.faddr 1 (.tmp 3)))⟩
  (.op ⟨(some 54), none, (.p (.loadi false 1 (.tmp 53)))⟩
  (.op ⟨(some 55), none, (.p (.val (.tmp 6)))⟩
  (.op ⟨(some 56), none, (.p (.iaddr 2 (.tmp 54) (.tmp 55)))⟩
  (.op ⟨(some 57), none, (.p (.loadi true 2 (.tmp 56)))⟩
  (.op ⟨(some 58), none, (.p (.eqd (.all [.i, .i]) true (.tmp 52) (.tmp 57)))⟩
  .done))))))))))))
 (.cond (.tmp 58)
 (.seq (.ops [] (.op ⟨(some 4), none, (.p (.val (.con (.bool false))))⟩
  .done))
 .ret)
 .skip)))
 (.ops [] (.op ⟨(some 46), none, (.p (.val (.tmp 6)))⟩
  (.op ⟨(some 47), none, (.p (.bin .add (.tmp 46) (.con (.int .i64 1))))⟩
  (.op ⟨(some 6), none, (.p (.val (.tmp 47)))⟩
  .done)))))))))
 (.seq (.ops [] (.op ⟨(some 4), none, (.p (.val (.con (.bool true))))⟩
  .done))
 .ret)))))⟩
theorem i76_is : compFunc Tryz.prog ⟨[], [2, 3], [2, 3, 7, 10, 15, 18, 24, 30, 33, 35, 38, 42, 48, 51, 53, 56]⟩ [] 76 = some i76 := by kernel_rfl

/-- baton/pack.caught: what was thrown is laid in slot 5 -/
def i77 : IFn := ⟨1, 15, [],
 (.block 0 (.seq (.ops [] (.op ⟨(some 7), none, (.p (.eqn .i false (.tmp 5) (.con .nilIface)))⟩
  .done))
 (.cond (.tmp 7)
 (.ops [] (.op ⟨(some 2), none, (.p (.val (.tmp 5)))⟩
  .done))
 (.seq (.ops [] (.op ⟨(some 8), none, (.p (.asrt true 204 (.agg [(.int .i64 0)]) (.tmp 5)))⟩
  (.op ⟨(some 9), none, (.p (.ext 1 (.tmp 8)))⟩
  (.op ⟨(some 10), none, (.p (.ext 0 (.tmp 8)))⟩
  .done))))
 (.cond (.tmp 9)
 (.seq (.ops [] (.op ⟨(some 3), none, (.alloc [(.int .i64 0)])⟩
  (.op ⟨(some 3), none, (.storef 3 1 (.tmp 10))⟩
  .done)))
 (.ops [] (.op ⟨(some 11), none, (.p (.val (.tmp 0)))⟩
  (.op ⟨(some 12), none, (.p (.faddr 0 (.tmp 3)))⟩
  (.op ⟨(some 13), none, (.p (.loadi false 1 (.tmp 12)))⟩
  (.op ⟨(some 14), none, (.p (.nilchk (.tmp 11)))⟩
  (.op ⟨none, none, (.store 1 (.tmp 14) (.tmp 13))⟩
  .done)))))))
 (.seq (.ops [] (.op ⟨(some 4), none, (.p (.val (.tmp 5)))⟩
  .done))
 (.ops [] (.op ⟨(some 6), none, (.p (.val (.tmp 4)))⟩
  (.op ⟨none, none, (.panic (.tmp 6))⟩
  .done)))))))))⟩
theorem i77_is : compRec Tryz.prog ⟨[3], [], [3, 12]⟩ [] 77 = some (5, i77) := by kernel_rfl

/-- baton/bits.New -/
def i78 : IFn := ⟨1, 6, [.tmp 2],
 (.seq (.ops [] (.op ⟨(some 2), none, (.p (.val (.con .nilptr)))⟩
  .done))
 (.seq (.ops [] (.op ⟨(some 3), none, (.p (.val (.tmp 0)))⟩
  (.op ⟨(some 4), none, (.p (.build [(.str []), (.int .i64 0), (.int .i64 0)] [(0, 1, (.tmp 3))]))⟩
  (.op ⟨(some 5), none, (.box (.tmp 4))⟩
  (.op ⟨(some 2), none, (.p (.val (.tmp 5)))⟩
  .done)))))
 .ret))⟩
theorem i78_is : compFunc Tryz.prog ⟨[], [], []⟩ [] 78 = some i78 := by kernel_rfl

/-- (baton/pack.reader).word -/
def i79 : IFn := ⟨1, 69, [.tmp 2],
 (.seq (.ops [] (.op ⟨(some 1), none, (.p (.boxi (.tmp 0)))⟩
  (.op ⟨(some 2), none, (.p (.val (.con (.int .u64 0))))⟩
  .done)))
 (.seq (.ops [] (.op ⟨(some 9), none, (.p (.faddr 0 (.tmp 1)))⟩
  (.op ⟨(some 10), none, (.p (.loadi false 1 (.tmp 9)))⟩
  (.op ⟨(some 11), none, (.call 131 [(.tmp 10)])⟩
  (.op ⟨(some 3), none, (.p (.val (.tmp 11)))⟩
  .done)))))
 (.seq (.ops [] (.op ⟨(some 12), none, (.p (.loadi true 1 (.tmp 1)))⟩
  (.op ⟨(some 13), none, (.call 132 [(.tmp 12)])⟩
  .done)))
 (.seq (.seq (.ops [] (.op ⟨(some 14), none, (.p (.val (.tmp 3)))⟩
  (.op ⟨(some 15), none, (.p (.bin .eql (.tmp 14) (.con (.int .u8 0))))⟩
  .done)))
 (.cond (.tmp 15)
 (.seq (.ops [] (.op ⟨(some 2), none, (.p (.val (.con (.int .u64 0))))⟩
  .done))
 .ret)
 .skip))
 (.seq (.ops [] (.op ⟨(some 16), none, (.p (.val (.tmp 3)))⟩
  (.op ⟨(some 17), none, (.p (.bin .shr (.tmp 16) (.con (.int .u64 4))))⟩
  (.op ⟨(some 18), none, (.p (.cvi .i64 (.tmp 17)))⟩
  (.op ⟨(some 19), none, (.p (.val (.tmp 3)))⟩
  (.op ⟨(some 20), none, (.p (.bin .and (.tmp 19) (.con (.int .u8 15))))⟩
  (.op ⟨(some 21), none, (.p (.cvi .i64 (.tmp 20)))⟩
  (.op ⟨(some 4), none, (.p (.val (.tmp 18)))⟩
  (.op ⟨(some 5), none, (.p (.val (.tmp 21)))⟩
  .done)))))))))
 (.seq (.ops [] (.op ⟨(some 22), none, (.p (.val (.tmp 5)))⟩
  (.op ⟨(some 23), none, (.p (.bin .lss (.tmp 22) (.con (.int .i64 1))))⟩
  (.op ⟨(some 24), none, (.p (.val (.tmp 23)))⟩
  (.op ⟨(some 25), (some (24, false)), (.p (.val (.tmp 5)))⟩
  (.op ⟨(some 26), (some (24, false)), (.p (.bin .gtr (.tmp 25) (.con (.int .i64 8))))⟩
  (.op ⟨(some 27), none, (.p (.pick (.tmp 24) (.con (.bool true)) (.tmp 26)))⟩
  (.op ⟨(some 28), none, (.p (.val (.tmp 27)))⟩
  (.op ⟨(some 29), (some (28, false)), (.p (.val (.tmp 4)))⟩
  (.op ⟨(some 30), (some (28, false)), (.p (.val (.tmp 5)))⟩
  (.op ⟨(some 31), (some (28, false)), (.p (.bin .add (.tmp 29) (.tmp 30)))⟩
  (.op ⟨(some 32), (some (28, false)), (.p (.bin .gtr (.tmp 31) (.con (.int .i64 8))))⟩
  (.op ⟨(some 33), none, (.p (.pick (.tmp 28) (.con (.bool true)) (.tmp 32)))⟩
  (.op ⟨(some 34), none, (.call 117 [(.tmp 33)])⟩
  .done))))))))))))))
 (.seq (.ops [] (.op ⟨(some 35), none, (.p (.faddr 0 (.tmp 1)))⟩
  (.op ⟨(some 36), none, (.p (.loadi false 1 (.tmp 35)))⟩
  (.op ⟨(some 37), none, (.p (.val (.tmp 5)))⟩
  (.op ⟨(some 38), none, (.call 133 [(.tmp 36), (.tmp 37)])⟩
  (.op ⟨(some 6), none, (.p (.val (.tmp 38)))⟩
  .done))))))
 (.seq (.ops [] (.op ⟨(some 39), none, (.p (.loadi true 1 (.tmp 1)))⟩
  (.op ⟨(some 40), none, (.call 132 [(.tmp 39)])⟩
  .done)))
 (.seq (.ops [] (.op ⟨(some 41), none, (.p (.val (.tmp 6)))⟩
  (.op ⟨(some 42), none, (.p (.idxs (.tmp 41) (.con (.int .i64 0))))⟩
  (.op ⟨(some 43), none, (.p (.bin .eql (.tmp 42) (.con (.int .u8 0))))⟩
  (.op ⟨(some 44), none, (.p (.val (.tmp 43)))⟩
  (.op ⟨(some 45), (some (44, false)), (.p (.val (.tmp 6)))⟩
  (.op ⟨(some 46), (some (44, false)), (.p (.val (.tmp 5)))⟩
  (.op ⟨(some 47), (some (44, false)), (.p (.bin .sub (.tmp 46) (.con (.int .i64 1))))⟩
  (.op ⟨(some 48), (some (44, false)), (.p (.idxs (.tmp 45) (.tmp 47)))⟩
  (.op ⟨(some 49), (some (44, false)), (.p (.bin .eql (.tmp 48) (.con (.int .u8 0))))⟩
  (.op ⟨(some 50), none, (.p (.pick (.tmp 44) (.con (.bool true)) (.tmp 49)))⟩
  (.op ⟨(some 51), none, (.call 117 [(.tmp 50)])⟩
  .done))))))))))))
 (.seq (.ops [] (.op ⟨(some 7), none, (.p (.val (.con (.int .u64 0))))⟩
  .done))
 (.seq (.seq (.ops [] (.op ⟨(some 52), none, (.p (.val (.tmp 5)))⟩
  (.op ⟨(some 53), none, (.p (.bin .sub (.tmp 52) (.con (.int .i64 1))))⟩
  (.op ⟨(some 8), none, (.p (.val (.tmp 53)))⟩
  .done))))
 (.block 0 (.loop (.seq (.seq (.ops [] (.op ⟨(some 54), none, (.p (.val (.tmp 8)))⟩
  (.op ⟨(some 55), none, (.p (.bin .geq (.tmp 54) (.con (.int .i64 0))))⟩
  .done)))
 (.cond (.tmp 55)
 .skip
 (.exit 0)))
 (.seq (.block 1 (.ops [] (.op ⟨(some 58), none, (.p (.val (.tmp 7)))⟩
  (.op ⟨(some 59), none, (.p (.bin .shl (.tmp 58) (.con (.int .u64 8))))⟩
  (.op ⟨(some 60), none, (.p (.val (.tmp 6)))⟩
  (.op ⟨(some 61), none, (.p (.val (.tmp 8)))⟩
  (.op ⟨(some 62), none, (.p (.idxs (.tmp 60) (.tmp 61)))⟩
  (.op ⟨(some 63), none, (.p (.cvi .u64 (.tmp 62)))⟩
  (.op ⟨(some 64), none, (.p (.bin .or (.tmp 59) (.tmp 63)))⟩
  (.op ⟨(some 7), none, (.p (.val (.tmp 64)))⟩
  .done))))))))))
 (.ops [] (.op ⟨(some 56), none, (.p (.val (.tmp 8)))⟩
  (.op ⟨(some 57), none, (.p (.bin .sub (.tmp 56) (.con (.int .i64 1))))⟩
  (.op ⟨(some 8), none, (.p (.val (.tmp 57)))⟩
  .done)))))))))
 (.seq (.ops [] (.op ⟨(some 65), none, (.p (.val (.tmp 7)))⟩
  (.op ⟨(some 66), none, (.p (.val (.tmp 4)))⟩
  (.op ⟨(some 67), none, (.p (.bin .mul (.tmp 66) (.con (.int .i64 8))))⟩
  (.op ⟨(some 68), none, (.p (.bin .shl (.tmp 65) (.tmp 67)))⟩
  (.op ⟨(some 2), none, (.p (.val (.tmp 68)))⟩
  .done))))))
 .ret))))))))))))⟩
theorem i79_is : compFunc Tryz.prog ⟨[], [1], [1, 9, 35]⟩ [] 79 = some i79 := by kernel_rfl

/-- (*baton/bits.Reader).At -/
def i80 : IFn := ⟨1, 9, [.tmp 2],
 (.seq (.ops [] (.op ⟨(some 2), none, (.p (.val (.con (.int .i64 0))))⟩
  .done))
 (.seq (.seq (.ops [] (.op ⟨(some 3), none, (.p (.val (.tmp 0)))⟩
  (.op ⟨(some 4), none, (.p (.eqn .p false (.tmp 3) (.con .nilptr)))⟩
  .done)))
 (.cond (.tmp 4)
 (.seq (.ops [] (.op ⟨(some 2), none, (.p (.val (.con (.int .i64 0))))⟩
  .done))
 .ret)
 .skip))
 (.seq (.ops [] (.op ⟨(some 5), none, (.p (.val (.tmp 0)))⟩
  (.op ⟨(some 6), none, (.p (.nilchk (.tmp 5)))⟩
  (.op ⟨(some 7), none, (.p (.faddr 1 (.tmp 6)))⟩
  (.op ⟨(some 8), none, (.load false 1 (.tmp 7))⟩
  (.op ⟨(some 2), none, (.p (.val (.tmp 8)))⟩
  .done))))))
 .ret)))⟩
theorem i80_is : compFunc Tryz.prog ⟨[], [], []⟩ [] 80 = some i80 := by kernel_rfl

/-- maps.Equal[map[baton/fence.place]int64,map[baton/fence.place]int64,baton/fence.place,int64] -/
def i82 : IFn := ⟨2, 34, [.tmp 4],
 (.seq (.ops [] (.op ⟨(some 4), none, (.p (.val (.con (.bool false))))⟩
  .done))
 (.seq (.seq (.ops [] (.op ⟨(some 9), none, (.p (.val (.tmp 0)))⟩
  (.op ⟨(some 10), none, (.maplen (.tmp 9))⟩
  (.op ⟨(some 11), none, (.p (.val (.tmp 1)))⟩
  (.op ⟨(some 12), none, (.maplen (.tmp 11))⟩
  (.op ⟨(some 13), none, (.p (.bin .neq (.tmp 10) (.tmp 12)))⟩
  .done))))))
 (.cond (.tmp 13)
 (.seq (.ops [] (.op ⟨(some 4), none, (.p (.val (.con (.bool false))))⟩
  .done))
 .ret)
 .skip))
 (.seq (.seq (.ops [] (.op ⟨(some 14), none, (.p (.val (.tmp 0)))⟩
  (.op ⟨(some 15), none, (.mrng (.tmp 14))⟩
  .done)))
 (.block 0 (.loop (.seq (.ops [] (.op ⟨(some 16), none, (.mnxt (.tmp 15))⟩
  (.op ⟨(some 17), none, (.p (.ext 0 (.tmp 16)))⟩
  .done)))
 (.seq (.cond (.tmp 17)
 .skip
 (.exit 0))
 (.block 1 (.seq (.ops [] (.op ⟨(some 18), none, (.mentry (.tmp 15))⟩
  (.op ⟨(some 19), none, (.p (.ext 0 (.tmp 18)))⟩
  (.op ⟨(some 20), none, (.p (.ext 1 (.tmp 18)))⟩
  (.op ⟨(some 5), none, (.alloc [(.str []), (.str [])])⟩
  (.op ⟨(some 5), none, (.storef 5 2 (.tmp 19))⟩
  (.op ⟨(some 6), none, (.p (.val (.tmp 20)))⟩
  .done)))))))
 (.seq (.ops [] (.op ⟨(some 22), none, (.p (.val (.tmp 1)))⟩
  (.op ⟨(some 23), none, (.p (.loadi true 2 (.tmp 5)))⟩
  (.op ⟨(some 24), none, (.mapget (.all [.s, .s]) true (.int .i64 0) (.tmp 22) (.tmp 23))⟩
  (.op ⟨(some 21), none, (.p (.val (.tmp 24)))⟩
  (.op ⟨(some 25), none, (.p (.ext 0 (.tmp 21)))⟩
  (.op ⟨(some 26), none, (.p (.ext 1 (.tmp 21)))⟩
  (.op ⟨(some 7), none, (.p (.val (.tmp 25)))⟩
  (.op ⟨(some 8), none, (.p (.val (.tmp 26)))⟩
  .done)))))))))
 (.seq (.ops [] (.op ⟨(some 27), none, (.p (.val (.tmp 8)))⟩
  (.op ⟨(some 28), none, (.p (.un .not (.tmp 27)))⟩
  (.op ⟨(some 29), none, (.p (.val (.tmp 28)))⟩
  (.op ⟨(some 30), (some (29, false)), (.p (.val (.tmp 6)))⟩
  (.op ⟨(some 31), (some (29, false)), (.p (.val (.tmp 7)))⟩
  (.op ⟨(some 32), (some (29, false)), (.p (.bin .neq (.tmp 30) (.tmp 31)))⟩
  (.op ⟨(some 33), none, (.p (.pick (.tmp 29) (.con (.bool true)) (.tmp 32)))⟩
  .done))))))))
 (.cond (.tmp 33)
 (.seq (.ops [] (.op ⟨(some 4), none, (.p (.val (.con (.bool false))))⟩
  .done))
 .ret)
 .skip))))))))))
 (.seq (.ops [] (.op ⟨(some 4), none, (.p (.val (.con (.bool true))))⟩
  .done))
 .ret))))⟩
theorem i82_is : compFunc Tryz.prog ⟨[5], [], [5]⟩ [] 82 = some i82 := by kernel_rfl

/-- maps.EqualFunc[map[baton/fence.place]baton/fence.own,map[baton/fence.place]baton/fence.own,baton/fence.place,baton/fence.own,baton/fence.own] -/
def i83 : IFn := ⟨3, 38, [.tmp 6],
 (.seq (.ops [] (.op ⟨(some 6), none, (.p (.val (.con (.bool false))))⟩
  .done))
 (.seq (.seq (.ops [] (.op ⟨(some 11), none, (.p (.val (.tmp 0)))⟩
  (.op ⟨(some 12), none, (.maplen (.tmp 11))⟩
  (.op ⟨(some 13), none, (.p (.val (.tmp 1)))⟩
  (.op ⟨(some 14), none, (.maplen (.tmp 13))⟩
  (.op ⟨(some 15), none, (.p (.bin .neq (.tmp 12) (.tmp 14)))⟩
  .done))))))
 (.cond (.tmp 15)
 (.seq (.ops [] (.op ⟨(some 6), none, (.p (.val (.con (.bool false))))⟩
  .done))
 .ret)
 .skip))
 (.seq (.seq (.ops [] (.op ⟨(some 16), none, (.p (.val (.tmp 0)))⟩
  (.op ⟨(some 17), none, (.mrng (.tmp 16))⟩
  .done)))
 (.block 0 (.loop (.seq (.ops [] (.op ⟨(some 18), none, (.mnxt (.tmp 17))⟩
  (.op ⟨(some 19), none, (.p (.ext 0 (.tmp 18)))⟩
  .done)))
 (.seq (.cond (.tmp 19)
 .skip
 (.exit 0))
 (.block 1 (.seq (.ops [] (.op ⟨(some 20), none, (.mentry (.tmp 17))⟩
  (.op ⟨(some 21), none, (.p (.ext 0 (.tmp 20)))⟩
  (.op ⟨(some 22), none, (.p (.ext 1 (.tmp 20)))⟩
  (.op ⟨(some 7), none, (.alloc [(.str []), (.str [])])⟩
  (.op ⟨(some 8), none, (.alloc [(.slice true 2 [] .full), (.slice true 2 [] .full)])⟩
  (.op ⟨(some 7), none, (.storef 7 2 (.tmp 21))⟩
  (.op ⟨(some 8), none, (.storef 8 2 (.tmp 22))⟩
  .done))))))))
 (.seq (.ops [] (.op ⟨(some 24), none, (.p (.val (.tmp 1)))⟩
  (.op ⟨(some 25), none, (.p (.loadi true 2 (.tmp 7)))⟩
  (.op ⟨(some 26), none, (.mapget (.all [.s, .s]) true (.agg [(.slice true 2 [] .full), (.slice true 2 [] .full)]) (.tmp 24) (.tmp 25))⟩
  (.op ⟨(some 23), none, (.p (.val (.tmp 26)))⟩
  (.op ⟨(some 27), none, (.p (.ext 0 (.tmp 23)))⟩
  (.op ⟨(some 28), none, (.p (.ext 1 (.tmp 23)))⟩
  (.op ⟨(some 9), none, (.alloc [(.slice true 2 [] .full), (.slice true 2 [] .full)])⟩
  (.op ⟨(some 9), none, (.storef 9 2 (.tmp 27))⟩
  (.op ⟨(some 10), none, (.p (.val (.tmp 28)))⟩
  .done))))))))))
 (.seq (.ops [] (.op ⟨(some 29), none, (.p (.val (.tmp 10)))⟩
  (.op ⟨(some 30), none, (.p (.un .not (.tmp 29)))⟩
  (.op ⟨(some 31), none, (.p (.val (.tmp 30)))⟩
  (.op ⟨(some 32), (some (31, false)), (.p (.val (.tmp 2)))⟩
  (.op ⟨(some 33), (some (31, false)), (.p (.loadi true 2 (.tmp 8)))⟩
  (.op ⟨(some 34), (some (31, false)), (.p (.loadi true 2 (.tmp 9)))⟩
  (.op ⟨(some 35), (some (31, false)), (.callv (.tmp 32) [(.tmp 33), (.tmp 34)])⟩
  (.op ⟨(some 36), (some (31, false)), (.p (.un .not (.tmp 35)))⟩
  (.op ⟨(some 37), none, (.p (.pick (.tmp 31) (.con (.bool true)) (.tmp 36)))⟩
  .done))))))))))
 (.cond (.tmp 37)
 (.seq (.ops [] (.op ⟨(some 6), none, (.p (.val (.con (.bool false))))⟩
  .done))
 .ret)
 .skip))))))))))
 (.seq (.ops [] (.op ⟨(some 6), none, (.p (.val (.con (.bool true))))⟩
  .done))
 .ret))))⟩
theorem i83_is : compFunc Tryz.prog ⟨[7, 8, 9], [], [7, 8, 9]⟩ [] 83 = some i83 := by kernel_rfl

/-- baton/fence.Same$1 -/
def i84 : IFn := ⟨2, 10, [.tmp 4],
 (.seq (.ops [] (.op ⟨(some 2), none, (.p (.boxi (.tmp 0)))⟩
  (.op ⟨(some 3), none, (.p (.boxi (.tmp 1)))⟩
  (.op ⟨(some 4), none, (.p (.val (.con (.bool false))))⟩
  .done))))
 (.seq (.ops [] (.op ⟨(some 5), none, (.p (.faddr 1 (.tmp 2)))⟩
  (.op ⟨(some 6), none, (.p (.loadi false 1 (.tmp 5)))⟩
  (.op ⟨(some 7), none, (.p (.faddr 1 (.tmp 3)))⟩
  (.op ⟨(some 8), none, (.p (.loadi false 1 (.tmp 7)))⟩
  (.op ⟨(some 9), none, (.call 85 [(.tmp 6), (.tmp 8)])⟩
  (.op ⟨(some 4), none, (.p (.val (.tmp 9)))⟩
  .done)))))))
 .ret))⟩
theorem i84_is : compFunc Tryz.prog ⟨[], [2, 3], [2, 3, 5, 7]⟩ [] 84 = some i84 := by kernel_rfl

/-- slices.Equal[[]baton/api.Sample,baton/api.Sample] -/
def i85 : IFn := ⟨2, 26, [.tmp 4],
 (.seq (.ops [] (.op ⟨(some 4), none, (.p (.val (.con (.bool false))))⟩
  .done))
 (.seq (.seq (.ops [] (.op ⟨(some 6), none, (.p (.val (.tmp 0)))⟩
  (.op ⟨(some 7), none, (.p (.lenl (.tmp 6)))⟩
  (.op ⟨(some 8), none, (.p (.val (.tmp 1)))⟩
  (.op ⟨(some 9), none, (.p (.lenl (.tmp 8)))⟩
  (.op ⟨(some 10), none, (.p (.bin .neq (.tmp 7) (.tmp 9)))⟩
  .done))))))
 (.cond (.tmp 10)
 (.seq (.ops [] (.op ⟨(some 4), none, (.p (.val (.con (.bool false))))⟩
  .done))
 .ret)
 .skip))
 (.seq (.seq (.ops [] (.op ⟨(some 11), none, (.p (.val (.tmp 0)))⟩
  (.op ⟨(some 12), none, (.p (.lenl (.tmp 11)))⟩
  (.op ⟨(some 13), none, (.p (.val (.con (.int .i64 0))))⟩
  .done))))
 (.block 0 (.loop (.seq (.ops [] (.op ⟨(some 14), none, (.p (.bin .lss (.tmp 13) (.tmp 12)))⟩
  .done))
 (.seq (.cond (.tmp 14)
 .skip
 (.exit 0))
 (.seq (.block 1 (.seq (.ops [] (.op ⟨(some 15), none, (.p (.val (.tmp 13)))⟩
  (.op ⟨(some 5), none, (.p (.val (.tmp 15)))⟩
  .done)))
 (.seq (.ops [] (.op ⟨(some 16), none, (.p (.val (.tmp 0)))⟩
  (.op ⟨(some 17), none, (.p (.val (.tmp 5)))⟩
  (.op ⟨(some 18), none, (.p (.iaddr 2 (.tmp 16) (.tmp 17)))⟩
  (.op ⟨(some 19), none, (.p (.loadi true 2 (.tmp 18)))⟩
  (.op ⟨(some 20), none, (.p (.val (.tmp 1)))⟩
  (.op ⟨(some 21), none, (.p (.val (.tmp 5)))⟩
  (.op ⟨(some 22), none, (.p (.iaddr 2 (.tmp 20) (.tmp 21)))⟩
  (.op ⟨(some 23), none, (.p (.loadi true 2 (.tmp 22)))⟩
  (.op ⟨(some 24), none, (.p (.eqd (.all [.i, .i]) true (.tmp 19) (.tmp 23)))⟩
  .done))))))))))
 (.cond (.tmp 24)
 (.seq (.ops [] (.op ⟨(some 4), none, (.p (.val (.con (.bool false))))⟩
  .done))
 .ret)
 .skip))))
 (.ops [] (.op ⟨(some 25), none, (.p (.bin .add (.tmp 13) (.con (.int .i64 1))))⟩
  (.op ⟨(some 13), none, (.p (.val (.tmp 25)))⟩
  .done)))))))))
 (.seq (.ops [] (.op ⟨(some 4), none, (.p (.val (.con (.bool true))))⟩
  .done))
 .ret))))⟩
theorem i85_is : compFunc Tryz.prog ⟨[], [], [18, 22]⟩ [] 85 = some i85 := by kernel_rfl

/-- maps.Keys[map[baton/fence.place]baton/fence.own,baton/fence.place,baton/fence.own] -/
def i87 : IFn := ⟨1, 4, [.tmp 2],
 (.seq (.ops [] (.op ⟨(some 1), none, (.p (.boxi (.tmp 0)))⟩
  (.op ⟨(some 2), none, (.p (.val (.con .nilFunc)))⟩
  .done)))
 (.seq (.ops [] (.op ⟨(some 3), none, (.p (.mkf (.func 137) [] [(.tmp 1)]))⟩
  (.op ⟨(some 2), none, (.p (.val (.tmp 3)))⟩
  .done)))
 .ret))⟩
theorem i87_is : compFunc Tryz.prog ⟨[], [1], [1]⟩ [] 87 = some i87 := by kernel_rfl

/-- (baton/fence.place).compare -/
def i88 : IFn := ⟨2, 17, [.tmp 4],
 (.seq (.ops [] (.op ⟨(some 2), none, (.p (.boxi (.tmp 0)))⟩
  (.op ⟨(some 3), none, (.p (.boxi (.tmp 1)))⟩
  (.op ⟨(some 4), none, (.p (.val (.con (.int .i64 0))))⟩
  .done))))
 (.seq (.ops [] (.op ⟨(some 5), none, (.p (.faddr 0 (.tmp 2)))⟩
  (.op ⟨(some 6), none, (.p (.loadi false 1 (.tmp 5)))⟩
  (.op ⟨(some 7), none, (.p (.faddr 0 (.tmp 3)))⟩
  (.op ⟨(some 8), none, (.p (.loadi false 1 (.tmp 7)))⟩
  (.op ⟨(some 10), none, (.p (.faddr 1 (.tmp 2)))⟩
  (.op ⟨(some 11), none, (.p (.loadi false 1 (.tmp 10)))⟩
  (.op ⟨(some 12), none, (.p (.faddr 1 (.tmp 3)))⟩
  (.op ⟨(some 13), none, (.p (.loadi false 1 (.tmp 12)))⟩
  (.op ⟨(some 9), none, (.call 139 [(.tmp 6), (.tmp 8)])⟩
  (.op ⟨(some 14), none, (.call 139 [(.tmp 11), (.tmp 13)])⟩
  (.op ⟨(some 15), none, (.p (.mks 1 [(.tmp 9), (.tmp 14)]))⟩
  (.op ⟨(some 16), none, (.call 138 [(.tmp 15)])⟩
  (.op ⟨(some 4), none, (.p (.val (.tmp 16)))⟩
  .done))))))))))))))
 .ret))⟩
theorem i88_is : compFunc Tryz.prog ⟨[], [2, 3], [2, 3, 5, 7, 10, 12]⟩ [] 88 = some i88 := by kernel_rfl

/-- slices.Clone[[]baton/api.Sample,baton/api.Sample] -/
def i89 : IFn := ⟨1, 8, [.tmp 2],
 (.seq (.ops [] (.op ⟨(some 2), none, (.p (.val (.con (.slice true 2 [] .full))))⟩
  .done))
 (.seq (.seq (.ops [] (.op ⟨(some 3), none, (.p (.val (.tmp 0)))⟩
  (.op ⟨(some 4), none, (.p (.eqn .s false (.tmp 3) (.con (.slice true 2 [] .full))))⟩
  .done)))
 (.cond (.tmp 4)
 (.seq (.ops [] (.op ⟨(some 2), none, (.p (.val (.con (.slice true 2 [] .full))))⟩
  .done))
 .ret)
 .skip))
 (.seq (.ops [] (.op ⟨(some 5), none, (.p (.mks 2 []))⟩
  (.op ⟨(some 6), none, (.p (.val (.tmp 0)))⟩
  (.op ⟨(some 7), none, (.append 2 16 (.tmp 5) (.tmp 6))⟩
  (.op ⟨(some 2), none, (.p (.val (.tmp 7)))⟩
  .done)))))
 .ret)))⟩
theorem i89_is : compFunc Tryz.prog ⟨[], [], []⟩ [] 89 = some i89 := by kernel_rfl

/-- baton/keys.Name -/
def i93 : IFn := ⟨1, 9, [.tmp 2],
 (.seq (.ops [] (.op ⟨(some 2), none, (.p (.val (.con (.bool false))))⟩
  .done))
 (.seq (.ops [] (.op ⟨(some 3), none, (.p (.val (.tmp 0)))⟩
  (.op ⟨(some 4), none, (.p (.bin .neq (.tmp 3) (.con (.str []))))⟩
  (.op ⟨(some 5), none, (.p (.val (.tmp 4)))⟩
  (.op ⟨(some 6), (some (5, true)), (.p (.val (.tmp 0)))⟩
  (.op ⟨(some 7), (some (5, true)), (.call 141 [(.tmp 6), (.con (.int .i64 2)), (.con (.int .i64 24))])⟩
  (.op ⟨(some 8), none, (.p (.pick (.tmp 5) (.tmp 7) (.con (.bool false))))⟩
  (.op ⟨(some 2), none, (.p (.val (.tmp 8)))⟩
  .done))))))))
 .ret))⟩
theorem i93_is : compFunc Tryz.prog ⟨[], [], []⟩ [] 93 = some i93 := by kernel_rfl

/-- baton/rpc.MayBatch$1 -/
def i94 : IFn := ⟨1, 11, [.tmp 2],
 (.seq (.ops [] (.op ⟨(some 1), none, (.p (.boxi (.tmp 0)))⟩
  (.op ⟨(some 2), none, (.p (.val (.con (.bool false))))⟩
  .done)))
 (.seq (.ops [] (.op ⟨(some 3), none, (.p (.faddr 0 (.tmp 1)))⟩
  (.op ⟨(some 4), none, (.p (.loadi false 1 (.tmp 3)))⟩
  (.op ⟨(some 5), none, (.p (.bin .lss (.tmp 4) (.con (.int .i64 0))))⟩
  (.op ⟨(some 6), none, (.p (.val (.tmp 5)))⟩
  (.op ⟨(some 7), (some (6, false)), (.p (.faddr 0 (.tmp 1)))⟩
  (.op ⟨(some 8), (some (6, false)), (.p (.loadi false 1 (.tmp 7)))⟩
  (.op ⟨(some 9), (some (6, false)), (.p (.bin .gtr (.tmp 8) (.con (.int .i64 1125899906842624))))⟩
  (.op ⟨(some 10), none, (.p (.pick (.tmp 6) (.con (.bool true)) (.tmp 9)))⟩
  (.op ⟨(some 2), none, (.p (.val (.tmp 10)))⟩
  .done))))))))))
 .ret))⟩
theorem i94_is : compFunc Tryz.prog ⟨[], [1], [1, 3, 7]⟩ [] 94 = some i94 := by kernel_rfl

/-- slices.ContainsFunc[[]baton/api.Series,baton/api.Series] -/
def i95 : IFn := ⟨2, 9, [.tmp 4],
 (.seq (.ops [] (.op ⟨(some 4), none, (.p (.val (.con (.bool false))))⟩
  .done))
 (.seq (.ops [] (.op ⟨(some 5), none, (.p (.val (.tmp 0)))⟩
  (.op ⟨(some 6), none, (.p (.val (.tmp 1)))⟩
  (.op ⟨(some 7), none, (.call 142 [(.tmp 5), (.tmp 6)])⟩
  (.op ⟨(some 8), none, (.p (.bin .geq (.tmp 7) (.con (.int .i64 0))))⟩
  (.op ⟨(some 4), none, (.p (.val (.tmp 8)))⟩
  .done))))))
 .ret))⟩
theorem i95_is : compFunc Tryz.prog ⟨[], [], []⟩ [] 95 = some i95 := by kernel_rfl

/-- baton/rpc.MayBatch$2 -/
def i96 : IFn := ⟨1, 14, [.tmp 3],
 (.seq (.ops [] (.op ⟨(some 2), none, (.p (.boxi (.tmp 0)))⟩
  (.op ⟨(some 3), none, (.p (.val (.con (.bool false))))⟩
  .done)))
 (.seq (.ops [] (.op ⟨(some 4), none, (.p (.faddr 0 (.tmp 2)))⟩
  (.op ⟨(some 5), none, (.p (.loadi false 1 (.tmp 4)))⟩
  (.op ⟨(some 6), none, (.call 97 [(.tmp 5)])⟩
  (.op ⟨(some 7), none, (.p (.un .not (.tmp 6)))⟩
  (.op ⟨(some 8), none, (.p (.val (.tmp 7)))⟩
  (.op ⟨(some 9), (some (8, false)), (.p (.faddr 1 (.tmp 2)))⟩
  (.op ⟨(some 10), (some (8, false)), (.p (.loadi false 1 (.tmp 9)))⟩
  (.op ⟨(some 11), (some (8, false)), (.load false 1 (.tmp 1))⟩
  (.op ⟨(some 12), (some (8, false)), (.call 98 [(.tmp 10), (.tmp 11)])⟩
  (.op ⟨(some 13), none, (.p (.pick (.tmp 8) (.con (.bool true)) (.tmp 12)))⟩
  (.op ⟨(some 3), none, (.p (.val (.tmp 13)))⟩
  .done))))))))))))
 .ret))⟩
theorem i96_is : compFunc Tryz.prog ⟨[], [2], [2, 4, 9]⟩ [] 96 = some i96 := by kernel_rfl

/-- baton/labels.May -/
def i97 : IFn := ⟨1, 46, [.tmp 2],
 (.seq (.ops [] (.op ⟨(some 2), none, (.p (.val (.con (.bool false))))⟩
  .done))
 (.seq (.seq (.ops [] (.op ⟨(some 5), none, (.p (.val (.tmp 0)))⟩
  (.op ⟨(some 6), none, (.p (.lenl (.tmp 5)))⟩
  (.op ⟨(some 7), none, (.p (.val (.con (.int .i64 0))))⟩
  .done))))
 (.block 0 (.loop (.seq (.ops [] (.op ⟨(some 8), none, (.p (.bin .lss (.tmp 7) (.tmp 6)))⟩
  .done))
 (.seq (.cond (.tmp 8)
 .skip
 (.exit 0))
 (.seq (.block 1 (.seq (.ops [] (.op ⟨(some 9), none, (.p (.val (.tmp 7)))⟩
  (.op ⟨(some 10), none, (.p (.iaddr 2 (.tmp 5) (.tmp 7)))⟩
  (.op ⟨(some 11), none, (.p (.loadi true 2 (.tmp 10)))⟩
  (.op ⟨(some 4), none, (.alloc [(.str []), (.str [])])⟩
  (.op ⟨(some 3), none, (.p (.val (.tmp 9)))⟩
  (.op ⟨(some 4), none, (.storef 4 2 (.tmp 11))⟩
  .done)))))))
 (.seq (.ops [] (.op ⟨(some 12), none, (.p (.faddr 0 (.tmp 4)))⟩
  (.op ⟨(some 13), none, (.p (.loadi false 1 (.tmp 12)))⟩
  (.op ⟨(some 14), none, (.call 143 [(.tmp 13)])⟩
  (.op ⟨(some 15), none, (.p (.un .not (.tmp 14)))⟩
  (.op ⟨(some 16), none, (.p (.val (.tmp 15)))⟩
  (.op ⟨(some 17), (some (16, false)), (.p (.faddr 1 (.tmp 4)))⟩
  (.op ⟨(some 18), (some (16, false)), (.p (.loadi false 1 (.tmp 17)))⟩
  (.op ⟨(some 19), (some (16, false)), (.call 144 [(.tmp 18)])⟩
  (.op ⟨(some 20), (some (16, false)), (.p (.un .not (.tmp 19)))⟩
  (.op ⟨(some 21), none, (.p (.pick (.tmp 16) (.con (.bool true)) (.tmp 20)))⟩
  (.op ⟨(some 22), none, (.p (.val (.tmp 21)))⟩
  (.op ⟨(some 23), (some (22, false)), (.p (.val (.tmp 3)))⟩
  (.op ⟨(some 24), (some (22, false)), (.p (.bin .gtr (.tmp 23) (.con (.int .i64 0))))⟩
  (.op ⟨(some 25), (some (22, false)), (.p (.val (.tmp 24)))⟩
  (.op ⟨(some 26), (some (25, true)), (.p (.faddr 0 (.tmp 4)))⟩
  (.op ⟨(some 27), (some (25, true)), (.p (.loadi false 1 (.tmp 26)))⟩
  (.op ⟨(some 28), (some (25, true)), (.p (.val (.tmp 0)))⟩
  (.op ⟨(some 29), (some (25, true)), (.p (.val (.tmp 3)))⟩
  (.op ⟨(some 30), (some (25, true)), (.p (.bin .sub (.tmp 29) (.con (.int .i64 1))))⟩
  (.op ⟨(some 31), (some (25, true)), (.p (.iaddr 2 (.tmp 28) (.tmp 30)))⟩
  (.op ⟨(some 32), (some (25, true)), (.p (.faddr 0 (.tmp 31)))⟩
  (.op ⟨(some 33), (some (25, true)), (.p (.loadi false 1 (.tmp 32)))⟩
  (.op ⟨(some 34), (some (25, true)), (.p (.bin .leq (.tmp 27) (.tmp 33)))⟩
  (.op ⟨(some 35), (some (22, false)), (.p (.pick (.tmp 25) (.tmp 34) (.con (.bool false))))⟩
  (.op ⟨(some 36), none, (.p (.pick (.tmp 22) (.con (.bool true)) (.tmp 35)))⟩
  .done))))))))))))))))))))))))))
 (.cond (.tmp 36)
 (.seq (.ops [] (.op ⟨(some 2), none, (.p (.val (.con (.bool false))))⟩
  .done))
 .ret)
 .skip))))
 (.ops [] (.op ⟨(some 37), none, (.p (.bin .add (.tmp 7) (.con (.int .i64 1))))⟩
  (.op ⟨(some 7), none, (.p (.val (.tmp 37)))⟩
  .done)))))))))
 (.seq (.ops [] (.op ⟨(some 38), none, (.p (.val (.tmp 0)))⟩
  (.op ⟨(some 39), none, (.p (.lenl (.tmp 38)))⟩
  (.op ⟨(some 40), none, (.p (.bin .gtr (.tmp 39) (.con (.int .i64 0))))⟩
  (.op ⟨(some 41), none, (.p (.val (.tmp 40)))⟩
  (.op ⟨(some 42), (some (41, true)), (.p (.val (.tmp 0)))⟩
  (.op ⟨(some 43), (some (41, true)), (.p (.lenl (.tmp 42)))⟩
  (.op ⟨(some 44), (some (41, true)), (.p (.bin .leq (.tmp 43) (.con (.int .i64 16))))⟩
  (.op ⟨(some 45), none, (.p (.pick (.tmp 41) (.tmp 44) (.con (.bool false))))⟩
  (.op ⟨(some 2), none, (.p (.val (.tmp 45)))⟩
  .done))))))))))
 .ret)))⟩
theorem i97_is : compFunc Tryz.prog ⟨[4], [], [4, 10, 12, 17, 26, 31, 32]⟩ [] 97 = some i97 := by kernel_rfl

/-- slices.ContainsFunc[[]baton/api.Sample,baton/api.Sample] -/
def i98 : IFn := ⟨2, 9, [.tmp 4],
 (.seq (.ops [] (.op ⟨(some 4), none, (.p (.val (.con (.bool false))))⟩
  .done))
 (.seq (.ops [] (.op ⟨(some 5), none, (.p (.val (.tmp 0)))⟩
  (.op ⟨(some 6), none, (.p (.val (.tmp 1)))⟩
  (.op ⟨(some 7), none, (.call 145 [(.tmp 5), (.tmp 6)])⟩
  (.op ⟨(some 8), none, (.p (.bin .geq (.tmp 7) (.con (.int .i64 0))))⟩
  (.op ⟨(some 4), none, (.p (.val (.tmp 8)))⟩
  .done))))))
 .ret))⟩
theorem i98_is : compFunc Tryz.prog ⟨[], [], []⟩ [] 98 = some i98 := by kernel_rfl

/-- baton/labels.Key -/
def i99 : IFn := ⟨1, 22, [.tmp 2],
 (.seq (.ops [] (.op ⟨(some 2), none, (.p (.val (.con (.str []))))⟩
  .done))
 (.seq (.ops [] (.op ⟨(some 3), none, (.p (.val (.con (.slice true 1 [] .full))))⟩
  .done))
 (.seq (.seq (.ops [] (.op ⟨(some 6), none, (.p (.val (.tmp 0)))⟩
  (.op ⟨(some 7), none, (.p (.lenl (.tmp 6)))⟩
  (.op ⟨(some 8), none, (.p (.val (.con (.int .i64 0))))⟩
  .done))))
 (.block 0 (.loop (.seq (.ops [] (.op ⟨(some 9), none, (.p (.bin .lss (.tmp 8) (.tmp 7)))⟩
  .done))
 (.seq (.cond (.tmp 9)
 .skip
 (.exit 0))
 (.seq (.block 1 (.seq (.ops [] (.op ⟨(some 10), none, (.p (.iaddr 2 (.tmp 6) (.tmp 8)))⟩
  (.op ⟨(some 11), none, (.p (.loadi true 2 (.tmp 10)))⟩
  (.op ⟨(some 5), none, (.alloc [(.str []), (.str [])])⟩
  (.op ⟨(some 5), none, (.storef 5 2 (.tmp 11))⟩
  .done)))))
 (.ops [] (.op ⟨(some 12), none, (.p (.val (.tmp 3)))⟩
  (.op ⟨(some 13), none, (.p (.faddr 0 (.tmp 5)))⟩
  (.op ⟨(some 14), none, (.p (.loadi false 1 (.tmp 13)))⟩
  (.op ⟨(some 16), none, (.p (.faddr 1 (.tmp 5)))⟩
  (.op ⟨(some 17), none, (.p (.loadi false 1 (.tmp 16)))⟩
  (.op ⟨(some 15), none, (.call 42 [(.tmp 12), (.tmp 14)])⟩
  (.op ⟨(some 18), none, (.call 42 [(.tmp 15), (.tmp 17)])⟩
  (.op ⟨(some 3), none, (.p (.val (.tmp 18)))⟩
  .done)))))))))))
 (.ops [] (.op ⟨(some 19), none, (.p (.bin .add (.tmp 8) (.con (.int .i64 1))))⟩
  (.op ⟨(some 8), none, (.p (.val (.tmp 19)))⟩
  .done)))))))))
 (.seq (.ops [] (.op ⟨(some 20), none, (.p (.val (.tmp 3)))⟩
  (.op ⟨(some 21), none, (.p (.cvbs (.tmp 20)))⟩
  (.op ⟨(some 2), none, (.p (.val (.tmp 21)))⟩
  .done))))
 .ret))))⟩
theorem i99_is : compFunc Tryz.prog ⟨[5], [], [5, 10, 13, 16]⟩ [] 99 = some i99 := by kernel_rfl

/-- baton/bits.Zig -/
def i100 : IFn := ⟨1, 10, [.tmp 2],
 (.seq (.ops [] (.op ⟨(some 2), none, (.p (.val (.con (.int .u64 0))))⟩
  .done))
 (.seq (.ops [] (.op ⟨(some 3), none, (.p (.val (.tmp 0)))⟩
  (.op ⟨(some 4), none, (.p (.cvi .u64 (.tmp 3)))⟩
  (.op ⟨(some 5), none, (.p (.bin .shl (.tmp 4) (.con (.int .u64 1))))⟩
  (.op ⟨(some 6), none, (.p (.val (.tmp 0)))⟩
  (.op ⟨(some 7), none, (.p (.bin .shr (.tmp 6) (.con (.int .u64 63))))⟩
  (.op ⟨(some 8), none, (.p (.cvi .u64 (.tmp 7)))⟩
  (.op ⟨(some 9), none, (.p (.bin .xor (.tmp 5) (.tmp 8)))⟩
  (.op ⟨(some 2), none, (.p (.val (.tmp 9)))⟩
  .done)))))))))
 .ret))⟩
theorem i100_is : compFunc Tryz.prog ⟨[], [], []⟩ [] 100 = some i100 := by kernel_rfl

/-- maps.Keys[map[baton/fence.place]int64,baton/fence.place,int64] -/
def i109 : IFn := ⟨1, 4, [.tmp 2],
 (.seq (.ops [] (.op ⟨(some 1), none, (.p (.boxi (.tmp 0)))⟩
  (.op ⟨(some 2), none, (.p (.val (.con .nilFunc)))⟩
  .done)))
 (.seq (.ops [] (.op ⟨(some 3), none, (.p (.mkf (.func 149) [] [(.tmp 1)]))⟩
  (.op ⟨(some 2), none, (.p (.val (.tmp 3)))⟩
  .done)))
 .ret))⟩
theorem i109_is : compFunc Tryz.prog ⟨[], [1], [1]⟩ [] 109 = some i109 := by kernel_rfl

/-- baton/bits.put[uint32] -/
def i110 : IFn := ⟨3, 19, [.tmp 6],
 (.seq (.ops [] (.op ⟨(some 6), none, (.p (.val (.con (.slice true 1 [] .full))))⟩
  .done))
 (.seq (.seq (.ops [] (.op ⟨(some 7), none, (.p (.val (.tmp 2)))⟩
  (.op ⟨(some 8), none, (.p (.val (.con (.int .i64 0))))⟩
  .done)))
 (.block 0 (.loop (.seq (.ops [] (.op ⟨(some 9), none, (.p (.bin .lss (.tmp 8) (.tmp 7)))⟩
  .done))
 (.seq (.cond (.tmp 9)
 .skip
 (.exit 0))
 (.seq (.block 1 (.seq (.ops [] (.op ⟨(some 10), none, (.p (.val (.tmp 0)))⟩
  (.op ⟨(some 11), none, (.p (.val (.tmp 1)))⟩
  (.op ⟨(some 12), none, (.p (.cvi .u8 (.tmp 11)))⟩
  (.op ⟨(some 13), none, (.p (.mks 1 [(.tmp 12)]))⟩
  (.op ⟨(some 14), none, (.append 1 1 (.tmp 10) (.tmp 13))⟩
  (.op ⟨(some 0), none, (.p (.val (.tmp 14)))⟩
  .done)))))))
 (.ops [] (.op ⟨(some 15), none, (.p (.val (.tmp 1)))⟩
  (.op ⟨(some 16), none, (.p (.bin .shr (.tmp 15) (.con (.int .u64 8))))⟩
  (.op ⟨(some 1), none, (.p (.val (.tmp 16)))⟩
  .done))))))
 (.ops [] (.op ⟨(some 17), none, (.p (.bin .add (.tmp 8) (.con (.int .i64 1))))⟩
  (.op ⟨(some 8), none, (.p (.val (.tmp 17)))⟩
  .done)))))))))
 (.seq (.ops [] (.op ⟨(some 18), none, (.p (.val (.tmp 0)))⟩
  (.op ⟨(some 6), none, (.p (.val (.tmp 18)))⟩
  .done)))
 .ret)))⟩
theorem i110_is : compFunc Tryz.prog ⟨[], [], []⟩ [] 110 = some i110 := by kernel_rfl

/-- baton/bits.put[uint64] -/
def i111 : IFn := ⟨3, 19, [.tmp 6],
 (.seq (.ops [] (.op ⟨(some 6), none, (.p (.val (.con (.slice true 1 [] .full))))⟩
  .done))
 (.seq (.seq (.ops [] (.op ⟨(some 7), none, (.p (.val (.tmp 2)))⟩
  (.op ⟨(some 8), none, (.p (.val (.con (.int .i64 0))))⟩
  .done)))
 (.block 0 (.loop (.seq (.ops [] (.op ⟨(some 9), none, (.p (.bin .lss (.tmp 8) (.tmp 7)))⟩
  .done))
 (.seq (.cond (.tmp 9)
 .skip
 (.exit 0))
 (.seq (.block 1 (.seq (.ops [] (.op ⟨(some 10), none, (.p (.val (.tmp 0)))⟩
  (.op ⟨(some 11), none, (.p (.val (.tmp 1)))⟩
  (.op ⟨(some 12), none, (.p (.cvi .u8 (.tmp 11)))⟩
  (.op ⟨(some 13), none, (.p (.mks 1 [(.tmp 12)]))⟩
  (.op ⟨(some 14), none, (.append 1 1 (.tmp 10) (.tmp 13))⟩
  (.op ⟨(some 0), none, (.p (.val (.tmp 14)))⟩
  .done)))))))
 (.ops [] (.op ⟨(some 15), none, (.p (.val (.tmp 1)))⟩
  (.op ⟨(some 16), none, (.p (.bin .shr (.tmp 15) (.con (.int .u64 8))))⟩
  (.op ⟨(some 1), none, (.p (.val (.tmp 16)))⟩
  .done))))))
 (.ops [] (.op ⟨(some 17), none, (.p (.bin .add (.tmp 8) (.con (.int .i64 1))))⟩
  (.op ⟨(some 8), none, (.p (.val (.tmp 17)))⟩
  .done)))))))))
 (.seq (.ops [] (.op ⟨(some 18), none, (.p (.val (.tmp 0)))⟩
  (.op ⟨(some 6), none, (.p (.val (.tmp 18)))⟩
  .done)))
 .ret)))⟩
theorem i111_is : compFunc Tryz.prog ⟨[], [], []⟩ [] 111 = some i111 := by kernel_rfl

/-- math/bits.RotateLeft32 -/
def i112 : IFn := ⟨2, 17, [.tmp 4],
 (.seq (.ops [] (.op ⟨(some 4), none, (.p (.val (.con (.int .u32 0))))⟩
  .done))
 (.seq (.ops [] (.op ⟨(some 6), none, (.p (.val (.tmp 1)))⟩
  (.op ⟨(some 7), none, (.p (.cvi .u64 (.tmp 6)))⟩
  (.op ⟨(some 8), none, (.p (.bin .and (.tmp 7) (.con (.int .u64 31))))⟩
  (.op ⟨(some 5), none, (.p (.val (.tmp 8)))⟩
  .done)))))
 (.seq (.ops [] (.op ⟨(some 9), none, (.p (.val (.tmp 0)))⟩
  (.op ⟨(some 10), none, (.p (.val (.tmp 5)))⟩
  (.op ⟨(some 11), none, (.p (.bin .shl (.tmp 9) (.tmp 10)))⟩
  (.op ⟨(some 12), none, (.p (.val (.tmp 0)))⟩
  (.op ⟨(some 13), none, (.p (.val (.tmp 5)))⟩
  (.op ⟨(some 14), none, (.p (.bin .sub (.con (.int .u64 32)) (.tmp 13)))⟩
  (.op ⟨(some 15), none, (.p (.bin .shr (.tmp 12) (.tmp 14)))⟩
  (.op ⟨(some 16), none, (.p (.bin .or (.tmp 11) (.tmp 15)))⟩
  (.op ⟨(some 4), none, (.p (.val (.tmp 16)))⟩
  .done))))))))))
 .ret)))⟩
theorem i112_is : compFunc Tryz.prog ⟨[], [], []⟩ [] 112 = some i112 := by kernel_rfl

/-- baton/sum.Add -/
def i113 : IFn := ⟨2, 36, [.tmp 4],
 (.seq (.ops [] (.op ⟨(some 4), none, (.p (.val (.con (.int .u32 0))))⟩
  .done))
 (.seq (.ops [] (.op ⟨(some 6), none, (.p (.val (.tmp 0)))⟩
  (.op ⟨(some 7), none, (.p (.un .xor (.tmp 6)))⟩
  (.op ⟨(some 0), none, (.p (.val (.tmp 7)))⟩
  .done))))
 (.seq (.seq (.ops [] (.op ⟨(some 8), none, (.p (.val (.tmp 1)))⟩
  (.op ⟨(some 9), none, (.p (.lens (.tmp 8)))⟩
  (.op ⟨(some 10), none, (.p (.val (.con (.int .i64 0))))⟩
  .done))))
 (.block 0 (.loop (.seq (.ops [] (.op ⟨(some 11), none, (.p (.bin .lss (.tmp 10) (.tmp 9)))⟩
  .done))
 (.seq (.cond (.tmp 11)
 .skip
 (.exit 0))
 (.seq (.block 1 (.seq (.ops [] (.op ⟨(some 12), none, (.p (.val (.tmp 10)))⟩
  (.op ⟨(some 5), none, (.p (.val (.tmp 12)))⟩
  .done)))
 (.seq (.ops [] (.op ⟨(some 13), none, (.p (.val (.tmp 0)))⟩
  (.op ⟨(some 14), none, (.p (.val (.tmp 1)))⟩
  (.op ⟨(some 15), none, (.p (.val (.tmp 5)))⟩
  (.op ⟨(some 16), none, (.p (.idxs (.tmp 14) (.tmp 15)))⟩
  (.op ⟨(some 17), none, (.p (.cvi .u32 (.tmp 16)))⟩
  (.op ⟨(some 18), none, (.p (.bin .xor (.tmp 13) (.tmp 17)))⟩
  (.op ⟨(some 0), none, (.p (.val (.tmp 18)))⟩
  .done))))))))
 (.seq (.ops [] (.op ⟨(some 19), none, (.p (.val (.tmp 0)))⟩
  (.op ⟨(some 20), none, (.p (.bin .shr (.tmp 19) (.con (.int .u64 4))))⟩
  (.op ⟨(some 21), none, (.p (.val (.tmp 0)))⟩
  (.op ⟨(some 22), none, (.p (.bin .and (.tmp 21) (.con (.int .u32 15))))⟩
  (.op ⟨(some 23), none, (.p (.iaddra 1 16 (.glob 1) (.tmp 22)))⟩
  (.op ⟨(some 24), none, (.load false 1 (.tmp 23))⟩
  (.op ⟨(some 25), none, (.p (.bin .xor (.tmp 20) (.tmp 24)))⟩
  (.op ⟨(some 0), none, (.p (.val (.tmp 25)))⟩
  .done)))))))))
 (.ops [] (.op ⟨(some 26), none, (.p (.val (.tmp 0)))⟩
  (.op ⟨(some 27), none, (.p (.bin .shr (.tmp 26) (.con (.int .u64 4))))⟩
  (.op ⟨(some 28), none, (.p (.val (.tmp 0)))⟩
  (.op ⟨(some 29), none, (.p (.bin .and (.tmp 28) (.con (.int .u32 15))))⟩
  (.op ⟨(some 30), none, (.p (.iaddra 1 16 (.glob 1) (.tmp 29)))⟩
  (.op ⟨(some 31), none, (.load false 1 (.tmp 30))⟩
  (.op ⟨(some 32), none, (.p (.bin .xor (.tmp 27) (.tmp 31)))⟩
  (.op ⟨(some 0), none, (.p (.val (.tmp 32)))⟩
  .done)))))))))))))
 (.ops [] (.op ⟨(some 33), none, (.p (.bin .add (.tmp 10) (.con (.int .i64 1))))⟩
  (.op ⟨(some 10), none, (.p (.val (.tmp 33)))⟩
  .done)))))))))
 (.seq (.ops [] (.op ⟨(some 34), none, (.p (.val (.tmp 0)))⟩
  (.op ⟨(some 35), none, (.p (.un .xor (.tmp 34)))⟩
  (.op ⟨(some 4), none, (.p (.val (.tmp 35)))⟩
  .done))))
 .ret))))⟩
theorem i113_is : compFunc Tryz.prog ⟨[], [], []⟩ [] 113 = some i113 := by kernel_rfl

/-- (baton/pack.reader).text -/
def i114 : IFn := ⟨2, 13, [.tmp 4],
 (.seq (.ops [] (.op ⟨(some 2), none, (.p (.boxi (.tmp 0)))⟩
  (.op ⟨(some 4), none, (.p (.val (.con (.str []))))⟩
  .done)))
 (.seq (.ops [] (.op ⟨(some 6), none, (.p (.faddr 0 (.tmp 2)))⟩
  (.op ⟨(some 7), none, (.p (.loadi false 1 (.tmp 6)))⟩
  (.op ⟨(some 8), none, (.p (.val (.tmp 1)))⟩
  (.op ⟨(some 9), none, (.call 150 [(.tmp 7), (.tmp 8)])⟩
  (.op ⟨(some 5), none, (.p (.val (.tmp 9)))⟩
  .done))))))
 (.seq (.ops [] (.op ⟨(some 10), none, (.p (.loadi true 1 (.tmp 2)))⟩
  (.op ⟨(some 11), none, (.call 132 [(.tmp 10)])⟩
  .done)))
 (.seq (.ops [] (.op ⟨(some 12), none, (.p (.val (.tmp 5)))⟩
  (.op ⟨(some 4), none, (.p (.val (.tmp 12)))⟩
  .done)))
 .ret))))⟩
theorem i114_is : compFunc Tryz.prog ⟨[], [2], [2, 6]⟩ [] 114 = some i114 := by kernel_rfl

/-- (baton/pack.reader).num -/
def i115 : IFn := ⟨2, 13, [.tmp 4],
 (.seq (.ops [] (.op ⟨(some 2), none, (.p (.boxi (.tmp 0)))⟩
  (.op ⟨(some 4), none, (.p (.val (.con (.int .u64 0))))⟩
  .done)))
 (.seq (.ops [] (.op ⟨(some 6), none, (.p (.faddr 0 (.tmp 2)))⟩
  (.op ⟨(some 7), none, (.p (.loadi false 1 (.tmp 6)))⟩
  (.op ⟨(some 8), none, (.p (.val (.tmp 1)))⟩
  (.op ⟨(some 9), none, (.call 151 [(.tmp 7), (.tmp 8)])⟩
  (.op ⟨(some 5), none, (.p (.val (.tmp 9)))⟩
  .done))))))
 (.seq (.ops [] (.op ⟨(some 10), none, (.p (.loadi true 1 (.tmp 2)))⟩
  (.op ⟨(some 11), none, (.call 132 [(.tmp 10)])⟩
  .done)))
 (.seq (.ops [] (.op ⟨(some 12), none, (.p (.val (.tmp 5)))⟩
  (.op ⟨(some 4), none, (.p (.val (.tmp 12)))⟩
  .done)))
 .ret))))⟩
theorem i115_is : compFunc Tryz.prog ⟨[], [2], [2, 6]⟩ [] 115 = some i115 := by kernel_rfl

/-- (baton/pack.reader).series -/
def i116 : IFn := ⟨1, 60, [.cell 2 true 2],
 (.seq (.ops [] (.op ⟨(some 1), none, (.p (.boxi (.tmp 0)))⟩
  (.op ⟨(some 2), none, (.alloc [(.slice true 2 [] .full), (.slice true 2 [] .full)])⟩
  .done)))
 (.seq (.ops [] (.op ⟨(some 9), none, (.p (.loadi true 1 (.tmp 1)))⟩
  (.op ⟨(some 10), none, (.call 114 [(.tmp 9), (.con (.int .i64 8192))])⟩
  (.op ⟨(some 11), none, (.call 152 [(.tmp 10)])⟩
  (.op ⟨(some 8), none, (.p (.val (.tmp 11)))⟩
  (.op ⟨(some 12), none, (.p (.ext 0 (.tmp 8)))⟩
  (.op ⟨(some 13), none, (.p (.ext 1 (.tmp 8)))⟩
  (.op ⟨(some 3), none, (.p (.val (.tmp 12)))⟩
  (.op ⟨(some 4), none, (.p (.val (.tmp 13)))⟩
  .done)))))))))
 (.seq (.seq (.ops [] (.op ⟨(some 14), none, (.p (.val (.tmp 4)))⟩
  (.op ⟨(some 15), none, (.p (.bin .neq (.tmp 14) (.con (.int .i64 0))))⟩
  .done)))
 (.cond (.tmp 15)
 (.ops [] (.op ⟨(some 16), none, (.p (.val (.tmp 4)))⟩
  (.op ⟨(some 17), none, (.p (.build [(.int .i64 0)] [(0, 1, (.tmp 16))]))⟩
  (.op ⟨(some 18), none, (.p (.ifc 204 (.tmp 17)))⟩
  (.op ⟨none, none, (.panic (.tmp 18))⟩
  .done)))))
 .skip))
 (.seq (.ops [] (.op ⟨(some 19), none, (.p (.val (.tmp 3)))⟩
  (.op ⟨(some 20), none, (.p (.faddr 0 (.tmp 2)))⟩
  (.op ⟨none, none, (.store 1 (.tmp 20) (.tmp 19))⟩
  .done))))
 (.seq (.ops [] (.op ⟨(some 21), none, (.p (.build [(.int .i64 0), (.int .u64 0)] []))⟩
  (.op ⟨(some 5), none, (.alloc [(.int .i64 0), (.int .u64 0)])⟩
  (.op ⟨none, none, (.store 2 (.tmp 5) (.tmp 21))⟩
  .done))))
 (.seq (.seq (.ops [] (.op ⟨(some 22), none, (.p (.loadi true 1 (.tmp 1)))⟩
  (.op ⟨(some 23), none, (.call 115 [(.tmp 22), (.con (.int .u64 4294967295))])⟩
  (.op ⟨(some 6), none, (.p (.val (.tmp 23)))⟩
  .done))))
 (.block 0 (.loop (.seq (.seq (.ops [] (.op ⟨(some 24), none, (.p (.val (.tmp 6)))⟩
  (.op ⟨(some 25), none, (.p (.bin .gtr (.tmp 24) (.con (.int .u64 0))))⟩
  .done)))
 (.cond (.tmp 25)
 .skip
 (.exit 0)))
 (.seq (.block 1 (.seq (.ops [] (.op ⟨(some 28), none, (.p (.faddr 0 (.tmp 1)))⟩
  (.op ⟨(some 29), none, (.p (.loadi false 1 (.tmp 28)))⟩
  (.op ⟨(some 30), none, (.call 153 [(.tmp 29), (.con (.int .i64 (-1125899906842624))), (.con (.int .i64 1125899906842624))])⟩
  (.op ⟨(some 7), none, (.p (.val (.tmp 30)))⟩
  .done)))))
 (.seq (.ops [] (.op ⟨(some 31), none, (.p (.loadi true 1 (.tmp 1)))⟩
  (.op ⟨(some 32), none, (.call 132 [(.tmp 31)])⟩
  .done)))
 (.seq (.ops [] (.op ⟨(some 33), none, (.p (.faddr 0 (.tmp 5)))⟩
  (.op ⟨(some 34), none, (.load false 1 (.tmp 33))⟩
  (.op ⟨(some 35), none, (.p (.val (.tmp 7)))⟩
  (.op ⟨(some 36), none, (.p (.bin .add (.tmp 34) (.tmp 35)))⟩
  (.op ⟨(some 37), none, (.p (.faddr 0 (.tmp 5)))⟩
  (.op ⟨none, none, (.store 1 (.tmp 37) (.tmp 36))⟩
  .done)))))))
 (.seq (.ops [] (.op ⟨(some 38), none, (.p (.faddr 0 (.tmp 5)))⟩
  (.op ⟨(some 39), none, (.load false 1 (.tmp 38))⟩
  (.op ⟨(some 40), none, (.p (.bin .lss (.tmp 39) (.con (.int .i64 0))))⟩
  (.op ⟨(some 41), none, (.p (.val (.tmp 40)))⟩
  (.op ⟨(some 42), (some (41, false)), (.p (.faddr 0 (.tmp 5)))⟩
  (.op ⟨(some 43), (some (41, false)), (.load false 1 (.tmp 42))⟩
  (.op ⟨(some 44), (some (41, false)), (.p (.bin .gtr (.tmp 43) (.con (.int .i64 1125899906842624))))⟩
  (.op ⟨(some 45), none, (.p (.pick (.tmp 41) (.con (.bool true)) (.tmp 44)))⟩
  (.op ⟨(some 46), none, (.call 117 [(.tmp 45)])⟩
  .done))))))))))
 (.seq (.ops [] (.op ⟨(some 47), none, (.p (.faddr 1 (.tmp 5)))⟩
  (.op ⟨(some 49), none, (.p (.loadi true 1 (.tmp 1)))⟩
  (.br
  (.op ⟨(some 48), none, (.load false 1 (.tmp 47))⟩
  (.op ⟨(some 50), none, (.call 79 [(.tmp 49)])⟩
  (.op ⟨(some 51), none, (.p (.bin .xor (.tmp 48) (.tmp 50)))⟩
  (.op ⟨(some 52), none, (.p (.faddr 1 (.tmp 5)))⟩
  (.op ⟨none, none, (.store 1 (.tmp 52) (.tmp 51))⟩
  .done)))))
  (.op ⟨(some 50), none, (.call 79 [(.tmp 49)])⟩
  (.op ⟨(some 48), none, (.load false 1 (.tmp 47))⟩
  (.op ⟨(some 51), none, (.p (.bin .xor (.tmp 48) (.tmp 50)))⟩
  (.op ⟨(some 52), none, (.p (.faddr 1 (.tmp 5)))⟩
  (.op ⟨none, none, (.store 1 (.tmp 52) (.tmp 51))⟩
  .done)))))))))
 (.ops [] (.op ⟨(some 53), none, (.p (.faddr 1 (.tmp 2)))⟩
  (.op ⟨(some 54), none, (.load false 1 (.tmp 53))⟩
  (.op ⟨(some 55), none, (.load true 2 (.tmp 5))⟩
  (.op ⟨(some 56), none, (.p (.mks 2 [(.tmp 55)]))⟩
  (.op ⟨(some 57), none, (.append 2 16 (.tmp 54) (.tmp 56))⟩
  (.op ⟨(some 58), none, (.p (.faddr 1 (.tmp 2)))⟩
  (.op ⟨none, none, (.store 1 (.tmp 58) (.tmp 57))⟩
  .done))))))))))))))
 (.ops [] (.op ⟨(some 26), none, (.p (.val (.tmp 6)))⟩
  (.op ⟨(some 27), none, (.p (.bin .sub (.tmp 26) (.con (.int .u64 1))))⟩
  (.op ⟨(some 6), none, (.p (.val (.tmp 27)))⟩
  .done)))))))))
 (.seq (.ops [] (.op ⟨(some 59), none, (.load true 2 (.tmp 2))⟩
  (.op ⟨none, none, (.store 2 (.tmp 2) (.tmp 59))⟩
  .done)))
 .ret)))))))⟩
theorem i116_is : compFunc Tryz.prog ⟨[], [1], [1, 28]⟩ [] 116 = some i116 := by kernel_rfl

/-- baton/pack.form -/
def i117 : IFn := ⟨1, 5, [],
 (.seq (.ops [] (.op ⟨(some 2), none, (.p (.val (.tmp 0)))⟩
  .done))
 (.cond (.tmp 2)
 (.ops [] (.op ⟨(some 3), none, (.p (.build [(.int .i64 0)] [(0, 1, (.con (.int .i64 4)))]))⟩
  (.op ⟨(some 4), none, (.p (.ifc 204 (.tmp 3)))⟩
  (.op ⟨none, none, (.panic (.tmp 4))⟩
  .done))))
 .skip))⟩
theorem i117_is : compFunc Tryz.prog ⟨[], [], []⟩ [] 117 = some i117 := by kernel_rfl

/-- (*baton/bits.Reader).Left -/
def i118 : IFn := ⟨1, 15, [.tmp 2],
 (.seq (.ops [] (.op ⟨(some 2), none, (.p (.val (.con (.int .i64 0))))⟩
  .done))
 (.seq (.seq (.ops [] (.op ⟨(some 3), none, (.p (.val (.tmp 0)))⟩
  (.op ⟨(some 4), none, (.p (.eqn .p false (.tmp 3) (.con .nilptr)))⟩
  .done)))
 (.cond (.tmp 4)
 (.seq (.ops [] (.op ⟨(some 2), none, (.p (.val (.con (.int .i64 0))))⟩
  .done))
 .ret)
 .skip))
 (.seq (.ops [] (.op ⟨(some 5), none, (.p (.val (.tmp 0)))⟩
  (.op ⟨(some 6), none, (.p (.nilchk (.tmp 5)))⟩
  (.op ⟨(some 7), none, (.p (.faddr 0 (.tmp 6)))⟩
  (.op ⟨(some 8), none, (.load false 1 (.tmp 7))⟩
  (.op ⟨(some 9), none, (.p (.lens (.tmp 8)))⟩
  (.op ⟨(some 10), none, (.p (.val (.tmp 0)))⟩
  (.op ⟨(some 11), none, (.p (.nilchk (.tmp 10)))⟩
  (.op ⟨(some 12), none, (.p (.faddr 1 (.tmp 11)))⟩
  (.op ⟨(some 13), none, (.load false 1 (.tmp 12))⟩
  (.op ⟨(some 14), none, (.p (.bin .sub (.tmp 9) (.tmp 13)))⟩
  (.op ⟨(some 2), none, (.p (.val (.tmp 14)))⟩
  .done))))))))))))
 .ret)))⟩
theorem i118_is : compFunc Tryz.prog ⟨[], [], []⟩ [] 118 = some i118 := by kernel_rfl

/-- baton/batonref02.Add -/
def i119 : IFn := ⟨2, 31, [.tmp 4],
 (.seq (.ops [] (.op ⟨(some 4), none, (.p (.val (.con (.int .u32 0))))⟩
  .done))
 (.seq (.ops [] (.op ⟨(some 7), none, (.p (.val (.tmp 0)))⟩
  (.op ⟨(some 8), none, (.p (.bin .xor (.tmp 7) (.con (.int .u32 4294967295))))⟩
  (.op ⟨(some 0), none, (.p (.val (.tmp 8)))⟩
  .done))))
 (.seq (.seq (.ops [] (.op ⟨(some 5), none, (.p (.val (.con (.int .i64 0))))⟩
  .done))
 (.block 0 (.loop (.seq (.seq (.ops [] (.op ⟨(some 9), none, (.p (.val (.tmp 5)))⟩
  (.op ⟨(some 10), none, (.p (.val (.tmp 1)))⟩
  (.op ⟨(some 11), none, (.p (.lens (.tmp 10)))⟩
  (.op ⟨(some 12), none, (.p (.bin .lss (.tmp 9) (.tmp 11)))⟩
  .done)))))
 (.cond (.tmp 12)
 .skip
 (.exit 0)))
 (.seq (.block 1 (.seq (.ops [] (.op ⟨(some 6), none, (.p (.val (.con (.int .i64 0))))⟩
  .done))
 (.block 2 (.loop (.seq (.seq (.ops [] (.op ⟨(some 15), none, (.p (.val (.tmp 6)))⟩
  (.op ⟨(some 16), none, (.p (.bin .lss (.tmp 15) (.con (.int .i64 8))))⟩
  .done)))
 (.cond (.tmp 16)
 .skip
 (.exit 2)))
 (.seq (.block 3 (.ops [] (.op ⟨(some 19), none, (.p (.val (.tmp 0)))⟩
  (.op ⟨(some 20), none, (.p (.val (.tmp 1)))⟩
  (.op ⟨(some 21), none, (.p (.val (.tmp 5)))⟩
  (.op ⟨(some 22), none, (.p (.idxs (.tmp 20) (.tmp 21)))⟩
  (.op ⟨(some 23), none, (.p (.val (.tmp 6)))⟩
  (.op ⟨(some 24), none, (.p (.cvi .u64 (.tmp 23)))⟩
  (.op ⟨(some 25), none, (.p (.bin .shr (.tmp 22) (.tmp 24)))⟩
  (.op ⟨(some 26), none, (.p (.cvi .u32 (.tmp 25)))⟩
  (.op ⟨(some 27), none, (.p (.bin .rem (.tmp 26) (.con (.int .u32 2))))⟩
  (.op ⟨(some 28), none, (.call 154 [(.tmp 19), (.tmp 27)])⟩
  (.op ⟨(some 0), none, (.p (.val (.tmp 28)))⟩
  .done)))))))))))))
 (.ops [] (.op ⟨(some 17), none, (.p (.val (.tmp 6)))⟩
  (.op ⟨(some 18), none, (.p (.bin .add (.tmp 17) (.con (.int .i64 1))))⟩
  (.op ⟨(some 6), none, (.p (.val (.tmp 18)))⟩
  .done))))))))))
 (.ops [] (.op ⟨(some 13), none, (.p (.val (.tmp 5)))⟩
  (.op ⟨(some 14), none, (.p (.bin .add (.tmp 13) (.con (.int .i64 1))))⟩
  (.op ⟨(some 5), none, (.p (.val (.tmp 14)))⟩
  .done)))))))))
 (.seq (.ops [] (.op ⟨(some 29), none, (.p (.val (.tmp 0)))⟩
  (.op ⟨(some 30), none, (.p (.bin .xor (.tmp 29) (.con (.int .u32 4294967295))))⟩
  (.op ⟨(some 4), none, (.p (.val (.tmp 30)))⟩
  .done))))
 .ret))))⟩
theorem i119_is : compFunc Tryz.prog ⟨[], [], []⟩ [] 119 = some i119 := by kernel_rfl

/-- baton/bits.fixed[uint32] -/
def i125 : IFn := ⟨1, 20, [.tmp 2],
 (.seq (.ops [] (.op ⟨(some 2), none, (.p (.val (.con (.int .u32 0))))⟩
  .done))
 (.seq (.ops [] (.op ⟨(some 3), none, (.p (.val (.con (.int .u32 0))))⟩
  .done))
 (.seq (.seq (.ops [] (.op ⟨(some 5), none, (.p (.val (.tmp 0)))⟩
  (.op ⟨(some 6), none, (.p (.lens (.tmp 5)))⟩
  (.op ⟨(some 7), none, (.p (.bin .sub (.tmp 6) (.con (.int .i64 1))))⟩
  (.op ⟨(some 4), none, (.p (.val (.tmp 7)))⟩
  .done)))))
 (.block 0 (.loop (.seq (.seq (.ops [] (.op ⟨(some 8), none, (.p (.val (.tmp 4)))⟩
  (.op ⟨(some 9), none, (.p (.bin .geq (.tmp 8) (.con (.int .i64 0))))⟩
  .done)))
 (.cond (.tmp 9)
 .skip
 (.exit 0)))
 (.seq (.block 1 (.ops [] (.op ⟨(some 12), none, (.p (.val (.tmp 3)))⟩
  (.op ⟨(some 13), none, (.p (.bin .shl (.tmp 12) (.con (.int .u64 8))))⟩
  (.op ⟨(some 14), none, (.p (.val (.tmp 0)))⟩
  (.op ⟨(some 15), none, (.p (.val (.tmp 4)))⟩
  (.op ⟨(some 16), none, (.p (.idxs (.tmp 14) (.tmp 15)))⟩
  (.op ⟨(some 17), none, (.p (.cvi .u32 (.tmp 16)))⟩
  (.op ⟨(some 18), none, (.p (.bin .or (.tmp 13) (.tmp 17)))⟩
  (.op ⟨(some 3), none, (.p (.val (.tmp 18)))⟩
  .done))))))))))
 (.ops [] (.op ⟨(some 10), none, (.p (.val (.tmp 4)))⟩
  (.op ⟨(some 11), none, (.p (.bin .sub (.tmp 10) (.con (.int .i64 1))))⟩
  (.op ⟨(some 4), none, (.p (.val (.tmp 11)))⟩
  .done)))))))))
 (.seq (.ops [] (.op ⟨(some 19), none, (.p (.val (.tmp 3)))⟩
  (.op ⟨(some 2), none, (.p (.val (.tmp 19)))⟩
  .done)))
 .ret))))⟩
theorem i125_is : compFunc Tryz.prog ⟨[], [], []⟩ [] 125 = some i125 := by kernel_rfl

/-- baton/bits.fixed[uint64] -/
def i126 : IFn := ⟨1, 20, [.tmp 2],
 (.seq (.ops [] (.op ⟨(some 2), none, (.p (.val (.con (.int .u64 0))))⟩
  .done))
 (.seq (.ops [] (.op ⟨(some 3), none, (.p (.val (.con (.int .u64 0))))⟩
  .done))
 (.seq (.seq (.ops [] (.op ⟨(some 5), none, (.p (.val (.tmp 0)))⟩
  (.op ⟨(some 6), none, (.p (.lens (.tmp 5)))⟩
  (.op ⟨(some 7), none, (.p (.bin .sub (.tmp 6) (.con (.int .i64 1))))⟩
  (.op ⟨(some 4), none, (.p (.val (.tmp 7)))⟩
  .done)))))
 (.block 0 (.loop (.seq (.seq (.ops [] (.op ⟨(some 8), none, (.p (.val (.tmp 4)))⟩
  (.op ⟨(some 9), none, (.p (.bin .geq (.tmp 8) (.con (.int .i64 0))))⟩
  .done)))
 (.cond (.tmp 9)
 .skip
 (.exit 0)))
 (.seq (.block 1 (.ops [] (.op ⟨(some 12), none, (.p (.val (.tmp 3)))⟩
  (.op ⟨(some 13), none, (.p (.bin .shl (.tmp 12) (.con (.int .u64 8))))⟩
  (.op ⟨(some 14), none, (.p (.val (.tmp 0)))⟩
  (.op ⟨(some 15), none, (.p (.val (.tmp 4)))⟩
  (.op ⟨(some 16), none, (.p (.idxs (.tmp 14) (.tmp 15)))⟩
  (.op ⟨(some 17), none, (.p (.cvi .u64 (.tmp 16)))⟩
  (.op ⟨(some 18), none, (.p (.bin .or (.tmp 13) (.tmp 17)))⟩
  (.op ⟨(some 3), none, (.p (.val (.tmp 18)))⟩
  .done))))))))))
 (.ops [] (.op ⟨(some 10), none, (.p (.val (.tmp 4)))⟩
  (.op ⟨(some 11), none, (.p (.bin .sub (.tmp 10) (.con (.int .i64 1))))⟩
  (.op ⟨(some 4), none, (.p (.val (.tmp 11)))⟩
  .done)))))))))
 (.seq (.ops [] (.op ⟨(some 19), none, (.p (.val (.tmp 3)))⟩
  (.op ⟨(some 2), none, (.p (.val (.tmp 19)))⟩
  .done)))
 .ret))))⟩
theorem i126_is : compFunc Tryz.prog ⟨[], [], []⟩ [] 126 = some i126 := by kernel_rfl

/-- (baton/fence.Fence).may -/
def i127 : IFn := ⟨1, 21, [.tmp 2],
 (.seq (.ops [] (.op ⟨(some 1), none, (.p (.boxi (.tmp 0)))⟩
  (.op ⟨(some 2), none, (.p (.val (.con (.bool false))))⟩
  .done)))
 (.seq (.ops [] (.op ⟨(some 3), none, (.p (.faddr 0 (.tmp 1)))⟩
  (.op ⟨(some 4), none, (.p (.loadi false 1 (.tmp 3)))⟩
  (.op ⟨(some 5), none, (.call 93 [(.tmp 4)])⟩
  (.op ⟨(some 6), none, (.p (.val (.tmp 5)))⟩
  (.op ⟨(some 7), (some (6, true)), (.p (.faddr 1 (.tmp 1)))⟩
  (.op ⟨(some 8), (some (6, true)), (.p (.loadi false 1 (.tmp 7)))⟩
  (.op ⟨(some 9), (some (6, true)), (.call 93 [(.tmp 8)])⟩
  (.op ⟨(some 10), none, (.p (.pick (.tmp 6) (.tmp 9) (.con (.bool false))))⟩
  (.op ⟨(some 11), none, (.p (.val (.tmp 10)))⟩
  (.op ⟨(some 12), (some (11, true)), (.p (.faddr 2 (.tmp 1)))⟩
  (.op ⟨(some 13), (some (11, true)), (.p (.loadi false 1 (.tmp 12)))⟩
  (.op ⟨(some 14), (some (11, true)), (.p (.bin .geq (.tmp 13) (.con (.int .i64 1))))⟩
  (.op ⟨(some 15), none, (.p (.pick (.tmp 11) (.tmp 14) (.con (.bool false))))⟩
  (.op ⟨(some 16), none, (.p (.val (.tmp 15)))⟩
  (.op ⟨(some 17), (some (16, true)), (.p (.faddr 2 (.tmp 1)))⟩
  (.op ⟨(some 18), (some (16, true)), (.p (.loadi false 1 (.tmp 17)))⟩
  (.op ⟨(some 19), (some (16, true)), (.p (.bin .leq (.tmp 18) (.con (.int .i64 1099511627776))))⟩
  (.op ⟨(some 20), none, (.p (.pick (.tmp 16) (.tmp 19) (.con (.bool false))))⟩
  (.op ⟨(some 2), none, (.p (.val (.tmp 20)))⟩
  .done))))))))))))))))))))
 .ret))⟩
theorem i127_is : compFunc Tryz.prog ⟨[], [1], [1, 3, 7, 12, 17]⟩ [] 127 = some i127 := by kernel_rfl

/-- (baton/fence.place).ahead -/
def i128 : IFn := ⟨2, 14, [.tmp 4],
 (.seq (.ops [] (.op ⟨(some 2), none, (.p (.boxi (.tmp 0)))⟩
  (.op ⟨(some 3), none, (.p (.boxi (.tmp 1)))⟩
  (.op ⟨(some 4), none, (.p (.val (.con (.bool false))))⟩
  .done))))
 (.seq (.ops [] (.op ⟨(some 5), none, (.p (.loadi true 2 (.tmp 2)))⟩
  (.op ⟨(some 6), none, (.p (.loadi true 2 (.tmp 3)))⟩
  (.op ⟨(some 7), none, (.p (.eqd (.all [.s, .s]) true (.tmp 5) (.tmp 6)))⟩
  (.op ⟨(some 8), none, (.p (.val (.tmp 7)))⟩
  (.op ⟨(some 9), (some (8, true)), (.p (.loadi true 2 (.tmp 2)))⟩
  (.op ⟨(some 10), (some (8, true)), (.p (.loadi true 2 (.tmp 3)))⟩
  (.op ⟨(some 11), (some (8, true)), (.call 88 [(.tmp 9), (.tmp 10)])⟩
  (.op ⟨(some 12), (some (8, true)), (.p (.bin .lss (.tmp 11) (.con (.int .i64 0))))⟩
  (.op ⟨(some 13), none, (.p (.pick (.tmp 8) (.tmp 12) (.con (.bool false))))⟩
  (.op ⟨(some 4), none, (.p (.val (.tmp 13)))⟩
  .done)))))))))))
 .ret))⟩
theorem i128_is : compFunc Tryz.prog ⟨[], [2, 3], [2, 3]⟩ [] 128 = some i128 := by kernel_rfl

/-- (baton/fence.Own).may -/
def i129 : IFn := ⟨1, 25, [.tmp 2],
 (.seq (.ops [] (.op ⟨(some 1), none, (.p (.boxi (.tmp 0)))⟩
  (.op ⟨(some 2), none, (.p (.val (.con (.bool false))))⟩
  .done)))
 (.seq (.ops [] (.op ⟨(some 3), none, (.p (.faddr 0 (.tmp 1)))⟩
  (.op ⟨(some 4), none, (.p (.loadi false 1 (.tmp 3)))⟩
  (.op ⟨(some 5), none, (.call 93 [(.tmp 4)])⟩
  (.op ⟨(some 6), none, (.p (.val (.tmp 5)))⟩
  (.op ⟨(some 7), (some (6, true)), (.p (.faddr 1 (.tmp 1)))⟩
  (.op ⟨(some 8), (some (6, true)), (.p (.faddr 0 (.tmp 7)))⟩
  (.op ⟨(some 9), (some (6, true)), (.p (.loadi false 1 (.tmp 8)))⟩
  (.op ⟨(some 10), (some (6, true)), (.call 97 [(.tmp 9)])⟩
  (.op ⟨(some 11), none, (.p (.pick (.tmp 6) (.tmp 10) (.con (.bool false))))⟩
  (.op ⟨(some 12), none, (.p (.val (.tmp 11)))⟩
  (.op ⟨(some 13), (some (12, true)), (.p (.faddr 1 (.tmp 1)))⟩
  (.op ⟨(some 14), (some (12, true)), (.p (.faddr 1 (.tmp 13)))⟩
  (.op ⟨(some 15), (some (12, true)), (.p (.loadi false 1 (.tmp 14)))⟩
  (.op ⟨(some 16), (some (12, true)), (.p (.lenl (.tmp 15)))⟩
  (.op ⟨(some 17), (some (12, true)), (.p (.bin .gtr (.tmp 16) (.con (.int .i64 0))))⟩
  (.op ⟨(some 18), none, (.p (.pick (.tmp 12) (.tmp 17) (.con (.bool false))))⟩
  (.op ⟨(some 19), none, (.p (.val (.tmp 18)))⟩
  (.op ⟨(some 20), (some (19, true)), (.p (.faddr 1 (.tmp 1)))⟩
  (.op ⟨(some 21), (some (19, true)), (.p (.faddr 1 (.tmp 20)))⟩
  (.op ⟨(some 22), (some (19, true)), (.p (.loadi false 1 (.tmp 21)))⟩
  (.op ⟨(some 23), (some (19, true)), (.call 147 [(.tmp 22)])⟩
  (.op ⟨(some 24), none, (.p (.pick (.tmp 19) (.tmp 23) (.con (.bool false))))⟩
  (.op ⟨(some 2), none, (.p (.val (.tmp 24)))⟩
  .done))))))))))))))))))))))))
 .ret))⟩
theorem i129_is : compFunc Tryz.prog ⟨[], [1], [1, 3, 7, 13, 20, 8, 14, 21]⟩ [] 129 = some i129 := by kernel_rfl

/-- (*baton/bits.Reader).Byte -/
def i131 : IFn := ⟨1, 10, [.tmp 2],
 (.seq (.ops [] (.op ⟨(some 2), none, (.p (.val (.con (.int .u8 0))))⟩
  .done))
 (.seq (.ops [] (.op ⟨(some 4), none, (.p (.val (.tmp 0)))⟩
  (.op ⟨(some 5), none, (.call 133 [(.tmp 4), (.con (.int .i64 1))])⟩
  (.op ⟨(some 3), none, (.p (.val (.tmp 5)))⟩
  .done))))
 (.seq (.seq (.ops [] (.op ⟨(some 6), none, (.p (.val (.tmp 3)))⟩
  (.op ⟨(some 7), none, (.p (.bin .eql (.tmp 6) (.con (.str []))))⟩
  .done)))
 (.cond (.tmp 7)
 (.seq (.ops [] (.op ⟨(some 2), none, (.p (.val (.con (.int .u8 0))))⟩
  .done))
 .ret)
 .skip))
 (.seq (.ops [] (.op ⟨(some 8), none, (.p (.val (.tmp 3)))⟩
  (.op ⟨(some 9), none, (.p (.idxs (.tmp 8) (.con (.int .i64 0))))⟩
  (.op ⟨(some 2), none, (.p (.val (.tmp 9)))⟩
  .done))))
 .ret))))⟩
theorem i131_is : compFunc Tryz.prog ⟨[], [], []⟩ [] 131 = some i131 := by kernel_rfl

/-- (baton/pack.reader).must -/
def i132 : IFn := ⟨1, 11, [],
 (.seq (.ops [] (.op ⟨(some 1), none, (.p (.boxi (.tmp 0)))⟩
  .done))
 (.seq (.ops [] (.op ⟨(some 3), none, (.p (.faddr 0 (.tmp 1)))⟩
  (.op ⟨(some 4), none, (.p (.loadi false 1 (.tmp 3)))⟩
  (.op ⟨(some 5), none, (.call 157 [(.tmp 4)])⟩
  (.op ⟨(some 2), none, (.p (.val (.tmp 5)))⟩
  .done)))))
 (.seq (.ops [] (.op ⟨(some 6), none, (.p (.val (.tmp 2)))⟩
  (.op ⟨(some 7), none, (.p (.bin .neq (.tmp 6) (.con (.int .i64 0))))⟩
  .done)))
 (.cond (.tmp 7)
 (.ops [] (.op ⟨(some 8), none, (.p (.val (.tmp 2)))⟩
  (.op ⟨(some 9), none, (.p (.build [(.int .i64 0)] [(0, 1, (.tmp 8))]))⟩
  (.op ⟨(some 10), none, (.p (.ifc 204 (.tmp 9)))⟩
  (.op ⟨none, none, (.panic (.tmp 10))⟩
  .done)))))
 .skip))))⟩
theorem i132_is : compFunc Tryz.prog ⟨[], [1], [1, 3]⟩ [] 132 = some i132 := by kernel_rfl

/-- (*baton/bits.Reader).Raw -/
def i133 : IFn := ⟨2, 46, [.tmp 4],
 (.seq (.ops [] (.op ⟨(some 4), none, (.p (.val (.con (.str []))))⟩
  .done))
 (.seq (.block 0 (.seq (.ops [] (.op ⟨(some 6), none, (.p (.val (.tmp 0)))⟩
  (.op ⟨(some 7), none, (.call 158 [(.tmp 6)])⟩
  (.op ⟨(some 8), none, (.p (.un .not (.tmp 7)))⟩
  (.op ⟨(some 5), none, (.p (.val (.tmp 8)))⟩
  .done)))))
 (.cond (.tmp 5)
 (.seq (.ops [] (.op ⟨(some 4), none, (.p (.val (.con (.str []))))⟩
  .done))
 .ret)
 (.seq (.ops [] (.op ⟨(some 10), none, (.p (.val (.tmp 1)))⟩
  (.op ⟨(some 11), none, (.p (.bin .lss (.tmp 10) (.con (.int .i64 0))))⟩
  (.op ⟨(some 9), none, (.p (.val (.tmp 11)))⟩
  .done))))
 (.cond (.tmp 9)
 (.seq (.ops [] (.op ⟨(some 12), none, (.p (.val (.tmp 0)))⟩
  (.op ⟨(some 13), none, (.p (.nilchk (.tmp 12)))⟩
  (.op ⟨(some 14), none, (.p (.faddr 2 (.tmp 13)))⟩
  (.op ⟨none, none, (.store 1 (.tmp 14) (.con (.int .i64 1)))⟩
  .done)))))
 (.seq (.ops [] (.op ⟨(some 4), none, (.p (.val (.con (.str []))))⟩
  .done))
 .ret))
 (.seq (.ops [] (.op ⟨(some 16), none, (.p (.val (.tmp 0)))⟩
  (.op ⟨(some 17), none, (.call 118 [(.tmp 16)])⟩
  (.op ⟨(some 18), none, (.p (.val (.tmp 1)))⟩
  (.op ⟨(some 19), none, (.p (.bin .lss (.tmp 17) (.tmp 18)))⟩
  (.op ⟨(some 15), none, (.p (.val (.tmp 19)))⟩
  .done))))))
 (.cond (.tmp 15)
 (.seq (.ops [] (.op ⟨(some 20), none, (.p (.val (.tmp 0)))⟩
  (.op ⟨(some 21), none, (.p (.nilchk (.tmp 20)))⟩
  (.op ⟨(some 22), none, (.p (.faddr 2 (.tmp 21)))⟩
  (.op ⟨none, none, (.store 1 (.tmp 22) (.con (.int .i64 8)))⟩
  .done)))))
 (.seq (.ops [] (.op ⟨(some 4), none, (.p (.val (.con (.str []))))⟩
  .done))
 .ret))
 .skip)))))))
 (.seq (.ops [] (.op ⟨(some 23), none, (.p (.val (.tmp 0)))⟩
  (.op ⟨(some 24), none, (.p (.nilchk (.tmp 23)))⟩
  (.op ⟨(some 25), none, (.p (.faddr 1 (.tmp 24)))⟩
  (.op ⟨(some 26), none, (.load false 1 (.tmp 25))⟩
  (.op ⟨(some 27), none, (.p (.val (.tmp 1)))⟩
  (.op ⟨(some 28), none, (.p (.bin .add (.tmp 26) (.tmp 27)))⟩
  (.op ⟨(some 29), none, (.p (.nilchk (.tmp 23)))⟩
  (.op ⟨(some 30), none, (.p (.faddr 1 (.tmp 29)))⟩
  (.op ⟨none, none, (.store 1 (.tmp 30) (.tmp 28))⟩
  .done))))))))))
 (.seq (.ops [] (.op ⟨(some 31), none, (.p (.val (.tmp 0)))⟩
  (.op ⟨(some 32), none, (.p (.nilchk (.tmp 31)))⟩
  (.op ⟨(some 33), none, (.p (.faddr 0 (.tmp 32)))⟩
  (.op ⟨(some 34), none, (.load false 1 (.tmp 33))⟩
  (.op ⟨(some 35), none, (.p (.val (.tmp 0)))⟩
  (.op ⟨(some 36), none, (.p (.nilchk (.tmp 35)))⟩
  (.op ⟨(some 37), none, (.p (.faddr 1 (.tmp 36)))⟩
  (.op ⟨(some 38), none, (.load false 1 (.tmp 37))⟩
  (.op ⟨(some 39), none, (.p (.val (.tmp 1)))⟩
  (.op ⟨(some 40), none, (.p (.bin .sub (.tmp 38) (.tmp 39)))⟩
  (.op ⟨(some 41), none, (.p (.val (.tmp 0)))⟩
  (.op ⟨(some 42), none, (.p (.nilchk (.tmp 41)))⟩
  (.op ⟨(some 43), none, (.p (.faddr 1 (.tmp 42)))⟩
  (.op ⟨(some 44), none, (.load false 1 (.tmp 43))⟩
  (.op ⟨(some 45), none, (.p (.sls (.tmp 34) (some (.tmp 40)) (some (.tmp 44))))⟩
  (.op ⟨(some 4), none, (.p (.val (.tmp 45)))⟩
  .done)))))))))))))))))
 .ret))))⟩
theorem i133_is : compFunc Tryz.prog ⟨[], [], []⟩ [] 133 = some i133 := by kernel_rfl

/-- maps.Keys[map[baton/fence.place]baton/fence.own,baton/fence.place,baton/fence.own]$1 -/
def i137 : IFn := ⟨1, 14, [],
 (.seq (.ops [] (.op ⟨(some 4), none, (.load false 1 (.tmp 1))⟩
  (.op ⟨(some 5), none, (.mrng (.tmp 4))⟩
  .done)))
 (.block 0 (.loop (.seq (.ops [] (.op ⟨(some 6), none, (.mnxt (.tmp 5))⟩
  (.op ⟨(some 7), none, (.p (.ext 0 (.tmp 6)))⟩
  .done)))
 (.seq (.cond (.tmp 7)
 .skip
 (.exit 0))
 (.block 1 (.seq (.ops [] (.op ⟨(some 8), none, (.mentry (.tmp 5))⟩
  (.op ⟨(some 9), none, (.p (.ext 0 (.tmp 8)))⟩
  (.op ⟨(some 3), none, (.alloc [(.str []), (.str [])])⟩
  (.op ⟨(some 3), none, (.storef 3 2 (.tmp 9))⟩
  .done)))))
 (.seq (.ops [] (.op ⟨(some 10), none, (.p (.val (.tmp 0)))⟩
  (.op ⟨(some 11), none, (.p (.loadi true 2 (.tmp 3)))⟩
  (.op ⟨(some 12), none, (.callv (.tmp 10) [(.tmp 11)])⟩
  (.op ⟨(some 13), none, (.p (.un .not (.tmp 12)))⟩
  .done)))))
 (.cond (.tmp 13)
 .ret
 .skip)))))))))⟩
theorem i137_is : compFunc Tryz.prog ⟨[3], [], [3]⟩ [] 137 = some i137 := by kernel_rfl

/-- cmp.Or[int] -/
def i138 : IFn := ⟨1, 18, [.tmp 2],
 (.seq (.ops [] (.op ⟨(some 2), none, (.p (.val (.con (.int .i64 0))))⟩
  .done))
 (.seq (.ops [] (.op ⟨(some 3), none, (.p (.val (.con (.int .i64 0))))⟩
  .done))
 (.seq (.seq (.ops [] (.op ⟨(some 6), none, (.p (.val (.tmp 0)))⟩
  (.op ⟨(some 7), none, (.p (.lenl (.tmp 6)))⟩
  (.op ⟨(some 8), none, (.p (.val (.con (.int .i64 0))))⟩
  .done))))
 (.block 0 (.loop (.seq (.ops [] (.op ⟨(some 9), none, (.p (.bin .lss (.tmp 8) (.tmp 7)))⟩
  .done))
 (.seq (.cond (.tmp 9)
 .skip
 (.exit 0))
 (.seq (.block 1 (.seq (.ops [] (.op ⟨(some 10), none, (.p (.iaddr 1 (.tmp 6) (.tmp 8)))⟩
  (.op ⟨(some 11), none, (.p (.loadi false 1 (.tmp 10)))⟩
  (.op ⟨(some 5), none, (.p (.val (.tmp 11)))⟩
  .done))))
 (.seq (.ops [] (.op ⟨(some 12), none, (.p (.val (.tmp 5)))⟩
  (.op ⟨(some 13), none, (.p (.val (.tmp 3)))⟩
  (.op ⟨(some 14), none, (.p (.bin .neq (.tmp 12) (.tmp 13)))⟩
  .done))))
 (.cond (.tmp 14)
 (.seq (.ops [] (.op ⟨(some 15), none, (.p (.val (.tmp 5)))⟩
  (.op ⟨(some 2), none, (.p (.val (.tmp 15)))⟩
  .done)))
 .ret)
 .skip))))
 (.ops [] (.op ⟨(some 16), none, (.p (.bin .add (.tmp 8) (.con (.int .i64 1))))⟩
  (.op ⟨(some 8), none, (.p (.val (.tmp 16)))⟩
  .done)))))))))
 (.seq (.ops [] (.op ⟨(some 17), none, (.p (.val (.tmp 3)))⟩
  (.op ⟨(some 2), none, (.p (.val (.tmp 17)))⟩
  .done)))
 .ret))))⟩
theorem i138_is : compFunc Tryz.prog ⟨[], [], [10]⟩ [] 138 = some i138 := by kernel_rfl

/-- cmp.Compare[string] -/
def i139 : IFn := ⟨2, 20, [.tmp 4],
 (.seq (.ops [] (.op ⟨(some 4), none, (.p (.val (.con (.int .i64 0))))⟩
  .done))
 (.seq (.ops [] (.op ⟨(some 7), none, (.p (.val (.tmp 0)))⟩
  (.op ⟨(some 8), none, (.call 162 [(.tmp 7)])⟩
  (.op ⟨(some 5), none, (.p (.val (.tmp 8)))⟩
  .done))))
 (.seq (.ops [] (.op ⟨(some 9), none, (.p (.val (.tmp 1)))⟩
  (.op ⟨(some 10), none, (.call 162 [(.tmp 9)])⟩
  (.op ⟨(some 6), none, (.p (.val (.tmp 10)))⟩
  .done))))
 (.seq (.seq (.ops [] (.op ⟨(some 11), none, (.p (.val (.tmp 5)))⟩
  .done))
 (.cond (.tmp 11)
 (.seq (.seq (.ops [] (.op ⟨(some 12), none, (.p (.val (.tmp 6)))⟩
  .done))
 (.cond (.tmp 12)
 (.seq (.ops [] (.op ⟨(some 4), none, (.p (.val (.con (.int .i64 0))))⟩
  .done))
 .ret)
 .skip))
 (.seq (.ops [] (.op ⟨(some 4), none, (.p (.val (.con (.int .i64 (-1)))))⟩
  .done))
 .ret))
 .skip))
 (.seq (.seq (.ops [] (.op ⟨(some 13), none, (.p (.val (.tmp 6)))⟩
  .done))
 (.cond (.tmp 13)
 (.seq (.ops [] (.op ⟨(some 4), none, (.p (.val (.con (.int .i64 1))))⟩
  .done))
 .ret)
 .skip))
 (.seq (.seq (.ops [] (.op ⟨(some 14), none, (.p (.val (.tmp 0)))⟩
  (.op ⟨(some 15), none, (.p (.val (.tmp 1)))⟩
  (.op ⟨(some 16), none, (.p (.bin .lss (.tmp 14) (.tmp 15)))⟩
  .done))))
 (.cond (.tmp 16)
 (.seq (.ops [] (.op ⟨(some 4), none, (.p (.val (.con (.int .i64 (-1)))))⟩
  .done))
 .ret)
 .skip))
 (.seq (.seq (.ops [] (.op ⟨(some 17), none, (.p (.val (.tmp 0)))⟩
  (.op ⟨(some 18), none, (.p (.val (.tmp 1)))⟩
  (.op ⟨(some 19), none, (.p (.bin .gtr (.tmp 17) (.tmp 18)))⟩
  .done))))
 (.cond (.tmp 19)
 (.seq (.ops [] (.op ⟨(some 4), none, (.p (.val (.con (.int .i64 1))))⟩
  .done))
 .ret)
 .skip))
 (.seq (.ops [] (.op ⟨(some 4), none, (.p (.val (.con (.int .i64 0))))⟩
  .done))
 .ret))))))))⟩
theorem i139_is : compFunc Tryz.prog ⟨[], [], []⟩ [] 139 = some i139 := by kernel_rfl

/-- baton/keys.all -/
def i141 : IFn := ⟨3, 24, [.tmp 6],
 (.seq (.ops [] (.op ⟨(some 6), none, (.p (.val (.con (.bool false))))⟩
  .done))
 (.seq (.seq (.ops [] (.op ⟨(some 8), none, (.p (.val (.tmp 0)))⟩
  (.op ⟨(some 9), none, (.p (.lens (.tmp 8)))⟩
  (.op ⟨(some 10), none, (.p (.val (.con (.int .i64 0))))⟩
  .done))))
 (.block 0 (.loop (.seq (.ops [] (.op ⟨(some 11), none, (.p (.bin .lss (.tmp 10) (.tmp 9)))⟩
  .done))
 (.seq (.cond (.tmp 11)
 .skip
 (.exit 0))
 (.seq (.block 1 (.seq (.ops [] (.op ⟨(some 12), none, (.p (.val (.tmp 10)))⟩
  (.op ⟨(some 7), none, (.p (.val (.tmp 12)))⟩
  .done)))
 (.seq (.ops [] (.op ⟨(some 13), none, (.p (.val (.tmp 0)))⟩
  (.op ⟨(some 14), none, (.p (.val (.tmp 7)))⟩
  (.op ⟨(some 15), none, (.p (.idxs (.tmp 13) (.tmp 14)))⟩
  (.op ⟨(some 16), none, (.call 163 [(.tmp 15)])⟩
  (.op ⟨(some 17), none, (.p (.val (.tmp 1)))⟩
  (.op ⟨(some 18), none, (.p (.bin .lss (.tmp 16) (.tmp 17)))⟩
  .done)))))))
 (.cond (.tmp 18)
 (.seq (.ops [] (.op ⟨(some 6), none, (.p (.val (.con (.bool false))))⟩
  .done))
 .ret)
 .skip))))
 (.ops [] (.op ⟨(some 19), none, (.p (.bin .add (.tmp 10) (.con (.int .i64 1))))⟩
  (.op ⟨(some 10), none, (.p (.val (.tmp 19)))⟩
  .done)))))))))
 (.seq (.ops [] (.op ⟨(some 20), none, (.p (.val (.tmp 0)))⟩
  (.op ⟨(some 21), none, (.p (.lens (.tmp 20)))⟩
  (.op ⟨(some 22), none, (.p (.val (.tmp 2)))⟩
  (.op ⟨(some 23), none, (.p (.bin .leq (.tmp 21) (.tmp 22)))⟩
  (.op ⟨(some 6), none, (.p (.val (.tmp 23)))⟩
  .done))))))
 .ret)))⟩
theorem i141_is : compFunc Tryz.prog ⟨[], [], []⟩ [] 141 = some i141 := by kernel_rfl

/-- slices.IndexFunc[[]baton/api.Series,baton/api.Series] -/
def i142 : IFn := ⟨2, 19, [.tmp 4],
 (.seq (.ops [] (.op ⟨(some 4), none, (.p (.val (.con (.int .i64 0))))⟩
  .done))
 (.seq (.seq (.ops [] (.op ⟨(some 6), none, (.p (.val (.tmp 0)))⟩
  (.op ⟨(some 7), none, (.p (.lenl (.tmp 6)))⟩
  (.op ⟨(some 8), none, (.p (.val (.con (.int .i64 0))))⟩
  .done))))
 (.block 0 (.loop (.seq (.ops [] (.op ⟨(some 9), none, (.p (.bin .lss (.tmp 8) (.tmp 7)))⟩
  .done))
 (.seq (.cond (.tmp 9)
 .skip
 (.exit 0))
 (.seq (.block 1 (.seq (.ops [] (.op ⟨(some 10), none, (.p (.val (.tmp 8)))⟩
  (.op ⟨(some 5), none, (.p (.val (.tmp 10)))⟩
  .done)))
 (.seq (.ops [] (.op ⟨(some 11), none, (.p (.val (.tmp 1)))⟩
  (.op ⟨(some 12), none, (.p (.val (.tmp 0)))⟩
  (.op ⟨(some 13), none, (.p (.val (.tmp 5)))⟩
  (.op ⟨(some 14), none, (.p (.iaddr 2 (.tmp 12) (.tmp 13)))⟩
  (.op ⟨(some 15), none, (.p (.loadi true 2 (.tmp 14)))⟩
  (.op ⟨(some 16), none, (.callv (.tmp 11) [(.tmp 15)])⟩
  .done)))))))
 (.cond (.tmp 16)
 (.seq (.ops [] (.op ⟨(some 17), none, (.p (.val (.tmp 5)))⟩
  (.op ⟨(some 4), none, (.p (.val (.tmp 17)))⟩
  .done)))
 .ret)
 .skip))))
 (.ops [] (.op ⟨(some 18), none, (.p (.bin .add (.tmp 8) (.con (.int .i64 1))))⟩
  (.op ⟨(some 8), none, (.p (.val (.tmp 18)))⟩
  .done)))))))))
 (.seq (.ops [] (.op ⟨(some 4), none, (.p (.val (.con (.int .i64 (-1)))))⟩
  .done))
 .ret)))⟩
theorem i142_is : compFunc Tryz.prog ⟨[], [], [14]⟩ [] 142 = some i142 := by kernel_rfl

/-- baton/labels.MayName -/
def i143 : IFn := ⟨1, 24, [.tmp 2],
 (.seq (.ops [] (.op ⟨(some 2), none, (.p (.val (.con (.bool false))))⟩
  .done))
 (.seq (.seq (.ops [] (.op ⟨(some 4), none, (.p (.val (.tmp 0)))⟩
  (.op ⟨(some 5), none, (.p (.lens (.tmp 4)))⟩
  (.op ⟨(some 6), none, (.p (.val (.con (.int .i64 0))))⟩
  .done))))
 (.block 0 (.loop (.seq (.ops [] (.op ⟨(some 7), none, (.p (.bin .lss (.tmp 6) (.tmp 5)))⟩
  .done))
 (.seq (.cond (.tmp 7)
 .skip
 (.exit 0))
 (.seq (.block 1 (.seq (.ops [] (.op ⟨(some 8), none, (.p (.val (.tmp 6)))⟩
  (.op ⟨(some 3), none, (.p (.val (.tmp 8)))⟩
  .done)))
 (.seq (.ops [] (.op ⟨(some 9), none, (.p (.val (.tmp 0)))⟩
  (.op ⟨(some 10), none, (.p (.val (.tmp 3)))⟩
  (.op ⟨(some 11), none, (.p (.idxs (.tmp 9) (.tmp 10)))⟩
  (.op ⟨(some 12), none, (.p (.val (.tmp 3)))⟩
  (.op ⟨(some 13), none, (.p (.bin .eql (.tmp 12) (.con (.int .i64 0))))⟩
  (.op ⟨(some 14), none, (.call 164 [(.tmp 11), (.tmp 13)])⟩
  (.op ⟨(some 15), none, (.p (.un .not (.tmp 14)))⟩
  .done))))))))
 (.cond (.tmp 15)
 (.seq (.ops [] (.op ⟨(some 2), none, (.p (.val (.con (.bool false))))⟩
  .done))
 .ret)
 .skip))))
 (.ops [] (.op ⟨(some 16), none, (.p (.bin .add (.tmp 6) (.con (.int .i64 1))))⟩
  (.op ⟨(some 6), none, (.p (.val (.tmp 16)))⟩
  .done)))))))))
 (.seq (.ops [] (.op ⟨(some 17), none, (.p (.val (.tmp 0)))⟩
  (.op ⟨(some 18), none, (.p (.bin .neq (.tmp 17) (.con (.str []))))⟩
  (.op ⟨(some 19), none, (.p (.val (.tmp 18)))⟩
  (.op ⟨(some 20), (some (19, true)), (.p (.val (.tmp 0)))⟩
  (.op ⟨(some 21), (some (19, true)), (.p (.lens (.tmp 20)))⟩
  (.op ⟨(some 22), (some (19, true)), (.p (.bin .leq (.tmp 21) (.con (.int .i64 64))))⟩
  (.op ⟨(some 23), none, (.p (.pick (.tmp 19) (.tmp 22) (.con (.bool false))))⟩
  (.op ⟨(some 2), none, (.p (.val (.tmp 23)))⟩
  .done)))))))))
 .ret)))⟩
theorem i143_is : compFunc Tryz.prog ⟨[], [], []⟩ [] 143 = some i143 := by kernel_rfl

/-- baton/labels.MayValue -/
def i144 : IFn := ⟨1, 29, [.tmp 2],
 (.seq (.ops [] (.op ⟨(some 2), none, (.p (.val (.con (.bool false))))⟩
  .done))
 (.seq (.ops [] (.op ⟨(some 3), none, (.p (.val (.con (.int .i64 0))))⟩
  .done))
 (.seq (.seq (.ops [] (.op ⟨(some 6), none, (.p (.val (.tmp 0)))⟩
  (.op ⟨(some 7), none, (.rng (.tmp 6))⟩
  .done)))
 (.block 0 (.loop (.seq (.ops [] (.op ⟨(some 8), none, (.nxt (.tmp 7))⟩
  (.op ⟨(some 9), none, (.p (.ext 0 (.tmp 8)))⟩
  .done)))
 (.seq (.cond (.tmp 9)
 .skip
 (.exit 0))
 (.block 1 (.seq (.ops [] (.op ⟨(some 10), none, (.p (.ext 2 (.tmp 8)))⟩
  (.op ⟨(some 5), none, (.p (.val (.tmp 10)))⟩
  .done)))
 (.seq (.ops [] (.op ⟨(some 11), none, (.p (.val (.tmp 3)))⟩
  (.op ⟨(some 12), none, (.p (.bin .add (.tmp 11) (.con (.int .i64 1))))⟩
  (.op ⟨(some 3), none, (.p (.val (.tmp 12)))⟩
  .done))))
 (.seq (.ops [] (.op ⟨(some 13), none, (.p (.val (.tmp 3)))⟩
  (.op ⟨(some 14), none, (.p (.bin .gtr (.tmp 13) (.con (.int .i64 64))))⟩
  (.op ⟨(some 15), none, (.p (.val (.tmp 14)))⟩
  (.op ⟨(some 16), (some (15, false)), (.p (.val (.tmp 5)))⟩
  (.op ⟨(some 17), (some (15, false)), (.p (.bin .lss (.tmp 16) (.con (.int .i32 32))))⟩
  (.op ⟨(some 18), none, (.p (.pick (.tmp 15) (.con (.bool true)) (.tmp 17)))⟩
  (.op ⟨(some 19), none, (.p (.val (.tmp 18)))⟩
  (.op ⟨(some 20), (some (19, false)), (.p (.val (.tmp 5)))⟩
  (.op ⟨(some 21), (some (19, false)), (.p (.bin .eql (.tmp 20) (.con (.int .i32 127))))⟩
  (.op ⟨(some 22), none, (.p (.pick (.tmp 19) (.con (.bool true)) (.tmp 21)))⟩
  .done)))))))))))
 (.cond (.tmp 22)
 (.seq (.ops [] (.op ⟨(some 2), none, (.p (.val (.con (.bool false))))⟩
  .done))
 .ret)
 .skip))))))))))
 (.seq (.ops [] (.op ⟨(some 23), none, (.p (.val (.tmp 3)))⟩
  (.op ⟨(some 24), none, (.p (.bin .gtr (.tmp 23) (.con (.int .i64 0))))⟩
  (.op ⟨(some 25), none, (.p (.val (.tmp 24)))⟩
  (.op ⟨(some 26), (some (25, true)), (.p (.val (.tmp 0)))⟩
  (.op ⟨(some 27), (some (25, true)), (.call 165 [(.tmp 26)])⟩
  (.op ⟨(some 28), none, (.p (.pick (.tmp 25) (.tmp 27) (.con (.bool false))))⟩
  (.op ⟨(some 2), none, (.p (.val (.tmp 28)))⟩
  .done))))))))
 .ret))))⟩
theorem i144_is : compFunc Tryz.prog ⟨[], [], []⟩ [] 144 = some i144 := by kernel_rfl

/-- slices.IndexFunc[[]baton/api.Sample,baton/api.Sample] -/
def i145 : IFn := ⟨2, 19, [.tmp 4],
 (.seq (.ops [] (.op ⟨(some 4), none, (.p (.val (.con (.int .i64 0))))⟩
  .done))
 (.seq (.seq (.ops [] (.op ⟨(some 6), none, (.p (.val (.tmp 0)))⟩
  (.op ⟨(some 7), none, (.p (.lenl (.tmp 6)))⟩
  (.op ⟨(some 8), none, (.p (.val (.con (.int .i64 0))))⟩
  .done))))
 (.block 0 (.loop (.seq (.ops [] (.op ⟨(some 9), none, (.p (.bin .lss (.tmp 8) (.tmp 7)))⟩
  .done))
 (.seq (.cond (.tmp 9)
 .skip
 (.exit 0))
 (.seq (.block 1 (.seq (.ops [] (.op ⟨(some 10), none, (.p (.val (.tmp 8)))⟩
  (.op ⟨(some 5), none, (.p (.val (.tmp 10)))⟩
  .done)))
 (.seq (.ops [] (.op ⟨(some 11), none, (.p (.val (.tmp 1)))⟩
  (.op ⟨(some 12), none, (.p (.val (.tmp 0)))⟩
  (.op ⟨(some 13), none, (.p (.val (.tmp 5)))⟩
  (.op ⟨(some 14), none, (.p (.iaddr 2 (.tmp 12) (.tmp 13)))⟩
  (.op ⟨(some 15), none, (.p (.loadi true 2 (.tmp 14)))⟩
  (.op ⟨(some 16), none, (.callv (.tmp 11) [(.tmp 15)])⟩
  .done)))))))
 (.cond (.tmp 16)
 (.seq (.ops [] (.op ⟨(some 17), none, (.p (.val (.tmp 5)))⟩
  (.op ⟨(some 4), none, (.p (.val (.tmp 17)))⟩
  .done)))
 .ret)
 .skip))))
 (.ops [] (.op ⟨(some 18), none, (.p (.bin .add (.tmp 8) (.con (.int .i64 1))))⟩
  (.op ⟨(some 8), none, (.p (.val (.tmp 18)))⟩
  .done)))))))))
 (.seq (.ops [] (.op ⟨(some 4), none, (.p (.val (.con (.int .i64 (-1)))))⟩
  .done))
 .ret)))⟩
theorem i145_is : compFunc Tryz.prog ⟨[], [], [14]⟩ [] 145 = some i145 := by kernel_rfl

/-- baton/series.May -/
def i147 : IFn := ⟨1, 32, [.tmp 2],
 (.seq (.ops [] (.op ⟨(some 2), none, (.p (.val (.con (.bool false))))⟩
  .done))
 (.seq (.seq (.ops [] (.op ⟨(some 5), none, (.p (.val (.tmp 0)))⟩
  (.op ⟨(some 6), none, (.p (.lenl (.tmp 5)))⟩
  (.op ⟨(some 7), none, (.p (.val (.con (.int .i64 0))))⟩
  .done))))
 (.block 0 (.loop (.seq (.ops [] (.op ⟨(some 8), none, (.p (.bin .lss (.tmp 7) (.tmp 6)))⟩
  .done))
 (.seq (.cond (.tmp 8)
 .skip
 (.exit 0))
 (.seq (.block 1 (.seq (.ops [] (.op ⟨(some 9), none, (.p (.val (.tmp 7)))⟩
  (.op ⟨(some 10), none, (.p (.iaddr 2 (.tmp 5) (.tmp 7)))⟩
  (.op ⟨(some 11), none, (.p (.loadi true 2 (.tmp 10)))⟩
  (.op ⟨(some 4), none, (.alloc [(.int .i64 0), (.int .u64 0)])⟩
  (.op ⟨(some 3), none, (.p (.val (.tmp 9)))⟩
  (.op ⟨(some 4), none, (.storef 4 2 (.tmp 11))⟩
  .done)))))))
 (.seq (.ops [] (.op ⟨(some 12), none, (.p (.faddr 0 (.tmp 4)))⟩
  (.op ⟨(some 13), none, (.p (.loadi false 1 (.tmp 12)))⟩
  (.op ⟨(some 14), none, (.call 167 [(.tmp 13)])⟩
  (.op ⟨(some 15), none, (.p (.un .not (.tmp 14)))⟩
  (.op ⟨(some 16), none, (.p (.val (.tmp 15)))⟩
  (.op ⟨(some 17), (some (16, false)), (.p (.val (.tmp 3)))⟩
  (.op ⟨(some 18), (some (16, false)), (.p (.bin .gtr (.tmp 17) (.con (.int .i64 0))))⟩
  (.op ⟨(some 19), (some (16, false)), (.p (.val (.tmp 18)))⟩
  (.op ⟨(some 20), (some (19, true)), (.p (.faddr 0 (.tmp 4)))⟩
  (.op ⟨(some 21), (some (19, true)), (.p (.loadi false 1 (.tmp 20)))⟩
  (.op ⟨(some 22), (some (19, true)), (.p (.val (.tmp 0)))⟩
  (.op ⟨(some 23), (some (19, true)), (.p (.val (.tmp 3)))⟩
  (.op ⟨(some 24), (some (19, true)), (.p (.bin .sub (.tmp 23) (.con (.int .i64 1))))⟩
  (.op ⟨(some 25), (some (19, true)), (.p (.iaddr 2 (.tmp 22) (.tmp 24)))⟩
  (.op ⟨(some 26), (some (19, true)), (.p (.faddr 0 (.tmp 25)))⟩
  (.op ⟨(some 27), (some (19, true)), (.p (.loadi false 1 (.tmp 26)))⟩
  (.op ⟨(some 28), (some (19, true)), (.p (.bin .leq (.tmp 21) (.tmp 27)))⟩
  (.op ⟨(some 29), (some (16, false)), (.p (.pick (.tmp 19) (.tmp 28) (.con (.bool false))))⟩
  (.op ⟨(some 30), none, (.p (.pick (.tmp 16) (.con (.bool true)) (.tmp 29)))⟩
  .done))))))))))))))))))))
 (.cond (.tmp 30)
 (.seq (.ops [] (.op ⟨(some 2), none, (.p (.val (.con (.bool false))))⟩
  .done))
 .ret)
 .skip))))
 (.ops [] (.op ⟨(some 31), none, (.p (.bin .add (.tmp 7) (.con (.int .i64 1))))⟩
  (.op ⟨(some 7), none, (.p (.val (.tmp 31)))⟩
  .done)))))))))
 (.seq (.ops [] (.op ⟨(some 2), none, (.p (.val (.con (.bool true))))⟩
  .done))
 .ret)))⟩
theorem i147_is : compFunc Tryz.prog ⟨[4], [], [4, 10, 12, 20, 25, 26]⟩ [] 147 = some i147 := by kernel_rfl

/-- maps.Keys[map[baton/fence.place]int64,baton/fence.place,int64]$1 -/
def i149 : IFn := ⟨1, 14, [],
 (.seq (.ops [] (.op ⟨(some 4), none, (.load false 1 (.tmp 1))⟩
  (.op ⟨(some 5), none, (.mrng (.tmp 4))⟩
  .done)))
 (.block 0 (.loop (.seq (.ops [] (.op ⟨(some 6), none, (.mnxt (.tmp 5))⟩
  (.op ⟨(some 7), none, (.p (.ext 0 (.tmp 6)))⟩
  .done)))
 (.seq (.cond (.tmp 7)
 .skip
 (.exit 0))
 (.block 1 (.seq (.ops [] (.op ⟨(some 8), none, (.mentry (.tmp 5))⟩
  (.op ⟨(some 9), none, (.p (.ext 0 (.tmp 8)))⟩
  (.op ⟨(some 3), none, (.alloc [(.str []), (.str [])])⟩
  (.op ⟨(some 3), none, (.storef 3 2 (.tmp 9))⟩
  .done)))))
 (.seq (.ops [] (.op ⟨(some 10), none, (.p (.val (.tmp 0)))⟩
  (.op ⟨(some 11), none, (.p (.loadi true 2 (.tmp 3)))⟩
  (.op ⟨(some 12), none, (.callv (.tmp 10) [(.tmp 11)])⟩
  (.op ⟨(some 13), none, (.p (.un .not (.tmp 12)))⟩
  .done)))))
 (.cond (.tmp 13)
 .ret
 .skip)))))))))⟩
theorem i149_is : compFunc Tryz.prog ⟨[3], [], [3]⟩ [] 149 = some i149 := by kernel_rfl

/-- (*baton/bits.Reader).Text -/
def i150 : IFn := ⟨2, 47, [.tmp 4],
 (.seq (.ops [] (.op ⟨(some 4), none, (.p (.val (.con (.str []))))⟩
  .done))
 (.seq (.seq (.ops [] (.op ⟨(some 7), none, (.p (.val (.tmp 0)))⟩
  (.op ⟨(some 8), none, (.call 158 [(.tmp 7)])⟩
  (.op ⟨(some 9), none, (.p (.un .not (.tmp 8)))⟩
  .done))))
 (.cond (.tmp 9)
 (.seq (.ops [] (.op ⟨(some 4), none, (.p (.val (.con (.str []))))⟩
  .done))
 .ret)
 .skip))
 (.seq (.ops [] (.op ⟨(some 10), none, (.p (.val (.tmp 0)))⟩
  (.op ⟨(some 11), none, (.p (.nilchk (.tmp 10)))⟩
  (.op ⟨(some 12), none, (.p (.faddr 1 (.tmp 11)))⟩
  (.op ⟨(some 13), none, (.load false 1 (.tmp 12))⟩
  (.op ⟨(some 5), none, (.p (.val (.tmp 13)))⟩
  .done))))))
 (.seq (.ops [] (.op ⟨(some 14), none, (.p (.val (.tmp 0)))⟩
  (.op ⟨(some 15), none, (.p (.val (.tmp 1)))⟩
  (.op ⟨(some 16), none, (.p (.min2 true (.tmp 15) (.con (.int .i64 0))))⟩
  (.op ⟨(some 17), none, (.p (.cvi .u64 (.tmp 16)))⟩
  (.op ⟨(some 18), none, (.call 151 [(.tmp 14), (.tmp 17)])⟩
  (.op ⟨(some 6), none, (.p (.val (.tmp 18)))⟩
  .done)))))))
 (.seq (.seq (.ops [] (.op ⟨(some 19), none, (.p (.val (.tmp 0)))⟩
  (.op ⟨(some 20), none, (.p (.nilchk (.tmp 19)))⟩
  (.op ⟨(some 21), none, (.p (.faddr 2 (.tmp 20)))⟩
  (.op ⟨(some 22), none, (.load false 1 (.tmp 21))⟩
  (.op ⟨(some 23), none, (.p (.bin .eql (.tmp 22) (.con (.int .i64 0))))⟩
  (.op ⟨(some 24), none, (.p (.val (.tmp 23)))⟩
  (.op ⟨(some 25), (some (24, true)), (.p (.val (.tmp 0)))⟩
  (.op ⟨(some 26), (some (24, true)), (.call 118 [(.tmp 25)])⟩
  (.op ⟨(some 27), (some (24, true)), (.p (.cvi .u64 (.tmp 26)))⟩
  (.op ⟨(some 28), (some (24, true)), (.p (.val (.tmp 6)))⟩
  (.op ⟨(some 29), (some (24, true)), (.p (.bin .lss (.tmp 27) (.tmp 28)))⟩
  (.op ⟨(some 30), none, (.p (.pick (.tmp 24) (.tmp 29) (.con (.bool false))))⟩
  .done)))))))))))))
 (.cond (.tmp 30)
 (.ops [] (.op ⟨(some 31), none, (.p (.val (.tmp 0)))⟩
  (.op ⟨(some 32), none, (.p (.val (.tmp 0)))⟩
  (.op ⟨(some 33), none, (.p (.val (.tmp 5)))⟩
  (.op ⟨(some 34), none, (.p (.nilchk (.tmp 31)))⟩
  (.op ⟨(some 35), none, (.p (.faddr 2 (.tmp 34)))⟩
  (.op ⟨none, none, (.store 1 (.tmp 35) (.con (.int .i64 8)))⟩
  (.op ⟨(some 36), none, (.p (.nilchk (.tmp 32)))⟩
  (.op ⟨(some 37), none, (.p (.faddr 1 (.tmp 36)))⟩
  (.op ⟨none, none, (.store 1 (.tmp 37) (.tmp 33))⟩
  .done))))))))))
 .skip))
 (.seq (.seq (.ops [] (.op ⟨(some 38), none, (.p (.val (.tmp 0)))⟩
  (.op ⟨(some 39), none, (.p (.nilchk (.tmp 38)))⟩
  (.op ⟨(some 40), none, (.p (.faddr 2 (.tmp 39)))⟩
  (.op ⟨(some 41), none, (.load false 1 (.tmp 40))⟩
  (.op ⟨(some 42), none, (.p (.bin .neq (.tmp 41) (.con (.int .i64 0))))⟩
  .done))))))
 (.cond (.tmp 42)
 (.seq (.ops [] (.op ⟨(some 4), none, (.p (.val (.con (.str []))))⟩
  .done))
 .ret)
 .skip))
 (.seq (.ops [] (.op ⟨(some 43), none, (.p (.val (.tmp 0)))⟩
  (.op ⟨(some 44), none, (.p (.val (.tmp 6)))⟩
  (.op ⟨(some 45), none, (.p (.cvi .i64 (.tmp 44)))⟩
  (.op ⟨(some 46), none, (.call 133 [(.tmp 43), (.tmp 45)])⟩
  (.op ⟨(some 4), none, (.p (.val (.tmp 46)))⟩
  .done))))))
 .ret)))))))⟩
theorem i150_is : compFunc Tryz.prog ⟨[], [], []⟩ [] 150 = some i150 := by kernel_rfl

/-- (*baton/bits.Reader).Varint -/
def i151 : IFn := ⟨2, 37, [.tmp 4],
 (.seq (.ops [] (.op ⟨(some 4), none, (.p (.val (.con (.int .u64 0))))⟩
  .done))
 (.seq (.seq (.ops [] (.op ⟨(some 8), none, (.p (.val (.tmp 0)))⟩
  (.op ⟨(some 9), none, (.call 158 [(.tmp 8)])⟩
  (.op ⟨(some 10), none, (.p (.un .not (.tmp 9)))⟩
  .done))))
 (.cond (.tmp 10)
 (.seq (.ops [] (.op ⟨(some 4), none, (.p (.val (.con (.int .u64 0))))⟩
  .done))
 .ret)
 .skip))
 (.seq (.ops [] (.op ⟨(some 12), none, (.p (.val (.tmp 0)))⟩
  (.op ⟨(some 13), none, (.p (.nilchk (.tmp 12)))⟩
  (.op ⟨(some 14), none, (.p (.faddr 0 (.tmp 13)))⟩
  (.op ⟨(some 15), none, (.load false 1 (.tmp 14))⟩
  (.op ⟨(some 16), none, (.p (.val (.tmp 0)))⟩
  (.op ⟨(some 17), none, (.p (.nilchk (.tmp 16)))⟩
  (.op ⟨(some 18), none, (.p (.faddr 1 (.tmp 17)))⟩
  (.op ⟨(some 19), none, (.load false 1 (.tmp 18))⟩
  (.op ⟨(some 20), none, (.call 169 [(.tmp 15), (.tmp 19)])⟩
  (.op ⟨(some 11), none, (.p (.val (.tmp 20)))⟩
  (.op ⟨(some 21), none, (.p (.ext 0 (.tmp 11)))⟩
  (.op ⟨(some 22), none, (.p (.ext 1 (.tmp 11)))⟩
  (.op ⟨(some 23), none, (.p (.ext 2 (.tmp 11)))⟩
  (.op ⟨(some 5), none, (.p (.val (.tmp 21)))⟩
  (.op ⟨(some 6), none, (.p (.val (.tmp 22)))⟩
  (.op ⟨(some 7), none, (.p (.val (.tmp 23)))⟩
  .done)))))))))))))))))
 (.seq (.seq (.ops [] (.op ⟨(some 24), none, (.p (.val (.tmp 7)))⟩
  (.op ⟨(some 25), none, (.p (.bin .eql (.tmp 24) (.con (.int .i64 0))))⟩
  (.op ⟨(some 26), none, (.p (.val (.tmp 25)))⟩
  (.op ⟨(some 27), (some (26, true)), (.p (.val (.tmp 5)))⟩
  (.op ⟨(some 28), (some (26, true)), (.p (.val (.tmp 1)))⟩
  (.op ⟨(some 29), (some (26, true)), (.p (.bin .gtr (.tmp 27) (.tmp 28)))⟩
  (.op ⟨(some 30), none, (.p (.pick (.tmp 26) (.tmp 29) (.con (.bool false))))⟩
  .done))))))))
 (.cond (.tmp 30)
 (.ops [] (.op ⟨(some 7), none, (.p (.val (.con (.int .i64 40))))⟩
  .done))
 .skip))
 (.seq (.seq (.ops [] (.op ⟨(some 31), none, (.p (.val (.tmp 0)))⟩
  (.op ⟨(some 32), none, (.p (.val (.tmp 6)))⟩
  (.op ⟨(some 33), none, (.p (.val (.tmp 7)))⟩
  (.op ⟨(some 34), none, (.call 170 [(.tmp 31), (.tmp 32), (.tmp 33)])⟩
  (.op ⟨(some 35), none, (.p (.un .not (.tmp 34)))⟩
  .done))))))
 (.cond (.tmp 35)
 (.seq (.ops [] (.op ⟨(some 4), none, (.p (.val (.con (.int .u64 0))))⟩
  .done))
 .ret)
 .skip))
 (.seq (.ops [] (.op ⟨(some 36), none, (.p (.val (.tmp 5)))⟩
  (.op ⟨(some 4), none, (.p (.val (.tmp 36)))⟩
  .done)))
 .ret))))))⟩
theorem i151_is : compFunc Tryz.prog ⟨[], [], []⟩ [] 151 = some i151 := by kernel_rfl

/-- baton/labels.Of -/
def i152 : IFn := ⟨1, 32, [.tmp 2, .tmp 3],
 (.seq (.ops [] (.op ⟨(some 2), none, (.p (.val (.con (.slice true 2 [] .full))))⟩
  (.op ⟨(some 3), none, (.p (.val (.con (.int .i64 0))))⟩
  .done)))
 (.seq (.ops [] (.op ⟨(some 8), none, (.p (.val (.tmp 0)))⟩
  (.op ⟨(some 9), none, (.call 78 [(.tmp 8)])⟩
  (.op ⟨(some 4), none, (.p (.val (.tmp 9)))⟩
  .done))))
 (.seq (.ops [] (.op ⟨(some 5), none, (.p (.val (.con (.slice true 2 [] .full))))⟩
  .done))
 (.seq (.block 0 (.loop (.seq (.seq (.ops [] (.op ⟨(some 10), none, (.p (.val (.tmp 4)))⟩
  (.op ⟨(some 11), none, (.call 118 [(.tmp 10)])⟩
  (.op ⟨(some 12), none, (.p (.bin .gtr (.tmp 11) (.con (.int .i64 0))))⟩
  .done))))
 (.cond (.tmp 12)
 .skip
 (.exit 0)))
 (.block 1 (.seq (.ops [] (.op ⟨(some 13), none, (.p (.val (.tmp 4)))⟩
  (.op ⟨(some 14), none, (.call 150 [(.tmp 13), (.con (.int .i64 64))])⟩
  (.op ⟨(some 15), none, (.p (.build [(.str []), (.str [])] [(0, 1, (.tmp 14))]))⟩
  (.op ⟨(some 6), none, (.alloc [(.str []), (.str [])])⟩
  (.op ⟨none, none, (.store 2 (.tmp 6) (.tmp 15))⟩
  .done))))))
 (.seq (.ops [] (.op ⟨(some 16), none, (.p (.val (.tmp 4)))⟩
  (.op ⟨(some 17), none, (.call 150 [(.tmp 16), (.con (.int .i64 256))])⟩
  (.op ⟨(some 18), none, (.p (.faddr 1 (.tmp 6)))⟩
  (.op ⟨none, none, (.store 1 (.tmp 18) (.tmp 17))⟩
  .done)))))
 (.seq (.seq (.ops [] (.op ⟨(some 19), none, (.p (.val (.tmp 4)))⟩
  (.op ⟨(some 20), none, (.call 157 [(.tmp 19)])⟩
  (.op ⟨(some 7), none, (.p (.val (.tmp 20)))⟩
  .done))))
 (.seq (.ops [] (.op ⟨(some 21), none, (.p (.val (.tmp 7)))⟩
  (.op ⟨(some 22), none, (.p (.bin .neq (.tmp 21) (.con (.int .i64 0))))⟩
  .done)))
 (.cond (.tmp 22)
 (.seq (.ops [] (.op ⟨(some 23), none, (.p (.val (.tmp 7)))⟩
  (.op ⟨(some 2), none, (.p (.val (.con (.slice true 2 [] .full))))⟩
  (.op ⟨(some 3), none, (.p (.val (.tmp 23)))⟩
  .done))))
 .ret)
 .skip)))
 (.ops [] (.op ⟨(some 24), none, (.p (.val (.tmp 5)))⟩
  (.op ⟨(some 25), none, (.load true 2 (.tmp 6))⟩
  (.op ⟨(some 26), none, (.p (.mks 2 [(.tmp 25)]))⟩
  (.op ⟨(some 27), none, (.append 2 32 (.tmp 24) (.tmp 26))⟩
  (.op ⟨(some 5), none, (.p (.val (.tmp 27)))⟩
  .done)))))))))))))
 (.seq (.seq (.ops [] (.op ⟨(some 28), none, (.p (.val (.tmp 5)))⟩
  (.op ⟨(some 29), none, (.call 97 [(.tmp 28)])⟩
  (.op ⟨(some 30), none, (.p (.un .not (.tmp 29)))⟩
  .done))))
 (.cond (.tmp 30)
 (.seq (.ops [] (.op ⟨(some 2), none, (.p (.val (.con (.slice true 2 [] .full))))⟩
  (.op ⟨(some 3), none, (.p (.val (.con (.int .i64 4))))⟩
  .done)))
 .ret)
 .skip))
 (.seq (.ops [] (.op ⟨(some 31), none, (.p (.val (.tmp 5)))⟩
  (.op ⟨(some 2), none, (.p (.val (.tmp 31)))⟩
  (.op ⟨(some 3), none, (.p (.val (.con (.int .i64 0))))⟩
  .done))))
 .ret))))))⟩
theorem i152_is : compFunc Tryz.prog ⟨[], [], []⟩ [] 152 = some i152 := by kernel_rfl

/-- (*baton/bits.Reader).Zag -/
def i153 : IFn := ⟨3, 47, [.tmp 6],
 (.seq (.ops [] (.op ⟨(some 6), none, (.p (.val (.con (.int .i64 0))))⟩
  .done))
 (.seq (.seq (.ops [] (.op ⟨(some 11), none, (.p (.val (.tmp 0)))⟩
  (.op ⟨(some 12), none, (.call 158 [(.tmp 11)])⟩
  (.op ⟨(some 13), none, (.p (.un .not (.tmp 12)))⟩
  .done))))
 (.cond (.tmp 13)
 (.seq (.ops [] (.op ⟨(some 6), none, (.p (.val (.con (.int .i64 0))))⟩
  .done))
 .ret)
 .skip))
 (.seq (.ops [] (.op ⟨(some 15), none, (.p (.val (.tmp 0)))⟩
  (.op ⟨(some 16), none, (.p (.nilchk (.tmp 15)))⟩
  (.op ⟨(some 17), none, (.p (.faddr 0 (.tmp 16)))⟩
  (.op ⟨(some 18), none, (.load false 1 (.tmp 17))⟩
  (.op ⟨(some 19), none, (.p (.val (.tmp 0)))⟩
  (.op ⟨(some 20), none, (.p (.nilchk (.tmp 19)))⟩
  (.op ⟨(some 21), none, (.p (.faddr 1 (.tmp 20)))⟩
  (.op ⟨(some 22), none, (.load false 1 (.tmp 21))⟩
  (.op ⟨(some 23), none, (.call 169 [(.tmp 18), (.tmp 22)])⟩
  (.op ⟨(some 14), none, (.p (.val (.tmp 23)))⟩
  (.op ⟨(some 24), none, (.p (.ext 0 (.tmp 14)))⟩
  (.op ⟨(some 25), none, (.p (.ext 1 (.tmp 14)))⟩
  (.op ⟨(some 26), none, (.p (.ext 2 (.tmp 14)))⟩
  (.op ⟨(some 7), none, (.p (.val (.tmp 24)))⟩
  (.op ⟨(some 8), none, (.p (.val (.tmp 25)))⟩
  (.op ⟨(some 9), none, (.p (.val (.tmp 26)))⟩
  .done)))))))))))))))))
 (.seq (.ops [] (.op ⟨(some 27), none, (.p (.val (.tmp 7)))⟩
  (.op ⟨(some 28), none, (.call 171 [(.tmp 27)])⟩
  (.op ⟨(some 10), none, (.p (.val (.tmp 28)))⟩
  .done))))
 (.seq (.seq (.ops [] (.op ⟨(some 29), none, (.p (.val (.tmp 9)))⟩
  (.op ⟨(some 30), none, (.p (.bin .eql (.tmp 29) (.con (.int .i64 0))))⟩
  (.op ⟨(some 31), none, (.p (.val (.tmp 30)))⟩
  (.op ⟨(some 32), (some (31, true)), (.p (.val (.tmp 10)))⟩
  (.op ⟨(some 33), (some (31, true)), (.p (.val (.tmp 1)))⟩
  (.op ⟨(some 34), (some (31, true)), (.p (.bin .lss (.tmp 32) (.tmp 33)))⟩
  (.op ⟨(some 35), (some (31, true)), (.p (.val (.tmp 34)))⟩
  (.op ⟨(some 36), (some (35, false)), (.p (.val (.tmp 10)))⟩
  (.op ⟨(some 37), (some (35, false)), (.p (.val (.tmp 2)))⟩
  (.op ⟨(some 38), (some (35, false)), (.p (.bin .gtr (.tmp 36) (.tmp 37)))⟩
  (.op ⟨(some 39), (some (31, true)), (.p (.pick (.tmp 35) (.con (.bool true)) (.tmp 38)))⟩
  (.op ⟨(some 40), none, (.p (.pick (.tmp 31) (.tmp 39) (.con (.bool false))))⟩
  .done)))))))))))))
 (.cond (.tmp 40)
 (.ops [] (.op ⟨(some 9), none, (.p (.val (.con (.int .i64 40))))⟩
  .done))
 .skip))
 (.seq (.seq (.ops [] (.op ⟨(some 41), none, (.p (.val (.tmp 0)))⟩
  (.op ⟨(some 42), none, (.p (.val (.tmp 8)))⟩
  (.op ⟨(some 43), none, (.p (.val (.tmp 9)))⟩
  (.op ⟨(some 44), none, (.call 170 [(.tmp 41), (.tmp 42), (.tmp 43)])⟩
  (.op ⟨(some 45), none, (.p (.un .not (.tmp 44)))⟩
  .done))))))
 (.cond (.tmp 45)
 (.seq (.ops [] (.op ⟨(some 6), none, (.p (.val (.con (.int .i64 0))))⟩
  .done))
 .ret)
 .skip))
 (.seq (.ops [] (.op ⟨(some 46), none, (.p (.val (.tmp 10)))⟩
  (.op ⟨(some 6), none, (.p (.val (.tmp 46)))⟩
  .done)))
 .ret)))))))⟩
theorem i153_is : compFunc Tryz.prog ⟨[], [], []⟩ [] 153 = some i153 := by kernel_rfl

/-- baton/batonref02.bit -/
def i154 : IFn := ⟨2, 16, [.tmp 4],
 (.seq (.ops [] (.op ⟨(some 4), none, (.p (.val (.con (.int .u32 0))))⟩
  .done))
 (.seq (.ops [] (.op ⟨(some 6), none, (.p (.val (.tmp 0)))⟩
  (.op ⟨(some 7), none, (.p (.bin .rem (.tmp 6) (.con (.int .u32 2))))⟩
  (.op ⟨(some 8), none, (.p (.val (.tmp 1)))⟩
  (.op ⟨(some 9), none, (.p (.bin .neq (.tmp 7) (.tmp 8)))⟩
  (.op ⟨(some 5), none, (.p (.val (.tmp 9)))⟩
  .done))))))
 (.seq (.ops [] (.op ⟨(some 10), none, (.p (.val (.tmp 0)))⟩
  (.op ⟨(some 11), none, (.p (.bin .quo (.tmp 10) (.con (.int .u32 2))))⟩
  (.op ⟨(some 0), none, (.p (.val (.tmp 11)))⟩
  .done))))
 (.seq (.seq (.ops [] (.op ⟨(some 12), none, (.p (.val (.tmp 5)))⟩
  .done))
 (.cond (.tmp 12)
 (.ops [] (.op ⟨(some 13), none, (.p (.val (.tmp 0)))⟩
  (.op ⟨(some 14), none, (.p (.bin .xor (.tmp 13) (.con (.int .u32 2197175160))))⟩
  (.op ⟨(some 0), none, (.p (.val (.tmp 14)))⟩
  .done))))
 .skip))
 (.seq (.ops [] (.op ⟨(some 15), none, (.p (.val (.tmp 0)))⟩
  (.op ⟨(some 4), none, (.p (.val (.tmp 15)))⟩
  .done)))
 .ret)))))⟩
theorem i154_is : compFunc Tryz.prog ⟨[], [], []⟩ [] 154 = some i154 := by kernel_rfl

/-- (*baton/bits.Reader).Err -/
def i157 : IFn := ⟨1, 9, [.tmp 2],
 (.seq (.ops [] (.op ⟨(some 2), none, (.p (.val (.con (.int .i64 0))))⟩
  .done))
 (.seq (.seq (.ops [] (.op ⟨(some 3), none, (.p (.val (.tmp 0)))⟩
  (.op ⟨(some 4), none, (.p (.eqn .p false (.tmp 3) (.con .nilptr)))⟩
  .done)))
 (.cond (.tmp 4)
 (.seq (.ops [] (.op ⟨(some 2), none, (.p (.val (.con (.int .i64 2))))⟩
  .done))
 .ret)
 .skip))
 (.seq (.ops [] (.op ⟨(some 5), none, (.p (.val (.tmp 0)))⟩
  (.op ⟨(some 6), none, (.p (.nilchk (.tmp 5)))⟩
  (.op ⟨(some 7), none, (.p (.faddr 2 (.tmp 6)))⟩
  (.op ⟨(some 8), none, (.load false 1 (.tmp 7))⟩
  (.op ⟨(some 2), none, (.p (.val (.tmp 8)))⟩
  .done))))))
 .ret)))⟩
theorem i157_is : compFunc Tryz.prog ⟨[], [], []⟩ [] 157 = some i157 := by kernel_rfl

/-- (*baton/bits.Reader).good -/
def i158 : IFn := ⟨1, 12, [.tmp 2],
 (.seq (.ops [] (.op ⟨(some 2), none, (.p (.val (.con (.bool false))))⟩
  .done))
 (.seq (.ops [] (.op ⟨(some 3), none, (.p (.val (.tmp 0)))⟩
  (.op ⟨(some 4), none, (.p (.eqn .p true (.tmp 3) (.con .nilptr)))⟩
  (.op ⟨(some 5), none, (.p (.val (.tmp 4)))⟩
  (.op ⟨(some 6), (some (5, true)), (.p (.val (.tmp 0)))⟩
  (.op ⟨(some 7), (some (5, true)), (.p (.nilchk (.tmp 6)))⟩
  (.op ⟨(some 8), (some (5, true)), (.p (.faddr 2 (.tmp 7)))⟩
  (.op ⟨(some 9), (some (5, true)), (.load false 1 (.tmp 8))⟩
  (.op ⟨(some 10), (some (5, true)), (.p (.bin .eql (.tmp 9) (.con (.int .i64 0))))⟩
  (.op ⟨(some 11), none, (.p (.pick (.tmp 5) (.tmp 10) (.con (.bool false))))⟩
  (.op ⟨(some 2), none, (.p (.val (.tmp 11)))⟩
  .done)))))))))))
 .ret))⟩
theorem i158_is : compFunc Tryz.prog ⟨[], [], []⟩ [] 158 = some i158 := by kernel_rfl


/-- cmp.isNaN[string] -/
def i162 : IFn := ⟨1, 6, [.tmp 2],
 (.seq (.ops [] (.op ⟨(some 2), none, (.p (.val (.con (.bool false))))⟩
  .done))
 (.seq (.ops [] (.op ⟨(some 3), none, (.p (.val (.tmp 0)))⟩
  (.op ⟨(some 4), none, (.p (.val (.tmp 0)))⟩
  (.op ⟨(some 5), none, (.p (.bin .neq (.tmp 3) (.tmp 4)))⟩
  (.op ⟨(some 2), none, (.p (.val (.tmp 5)))⟩
  .done)))))
 .ret))⟩
theorem i162_is : compFunc Tryz.prog ⟨[], [], []⟩ [] 162 = some i162 := by kernel_rfl

/-- baton/keys.of -/
def i163 : IFn := ⟨1, 38, [.tmp 2],
 (.seq (.ops [] (.op ⟨(some 2), none, (.p (.val (.con (.int .i64 0))))⟩
  .done))
 (.seq (.ops [] (.op ⟨(some 3), none, (.p (.val (.con (.int .i64 0))))⟩
  .done))
 (.seq (.block 0 (.seq (.block 3 (.seq (.block 2 (.block 1 (.seq (.seq (.seq (.seq (.ops [] (.op ⟨(some 5), none, (.p (.val (.tmp 0)))⟩
  (.op ⟨(some 6), none, (.p (.bin .geq (.tmp 5) (.con (.int .u8 97))))⟩
  (.op ⟨(some 7), none, (.p (.val (.tmp 6)))⟩
  (.op ⟨(some 8), (some (7, true)), (.p (.val (.tmp 0)))⟩
  (.op ⟨(some 9), (some (7, true)), (.p (.bin .leq (.tmp 8) (.con (.int .u8 122))))⟩
  (.op ⟨(some 10), none, (.p (.pick (.tmp 7) (.tmp 9) (.con (.bool false))))⟩
  (.op ⟨(some 4), none, (.p (.val (.tmp 10)))⟩
  .done))))))))
 (.cond (.tmp 4)
 .skip
 (.seq (.ops [] (.op ⟨(some 11), none, (.p (.val (.tmp 0)))⟩
  (.op ⟨(some 12), none, (.p (.bin .geq (.tmp 11) (.con (.int .u8 65))))⟩
  (.op ⟨(some 13), none, (.p (.val (.tmp 12)))⟩
  (.op ⟨(some 14), (some (13, true)), (.p (.val (.tmp 0)))⟩
  (.op ⟨(some 15), (some (13, true)), (.p (.bin .leq (.tmp 14) (.con (.int .u8 90))))⟩
  (.op ⟨(some 16), none, (.p (.pick (.tmp 13) (.tmp 15) (.con (.bool false))))⟩
  (.op ⟨(some 4), none, (.p (.val (.tmp 16)))⟩
  .done))))))))
 (.cond (.tmp 4)
 .skip
 (.ops [] (.op ⟨(some 17), none, (.p (.val (.tmp 0)))⟩
  (.op ⟨(some 18), none, (.p (.bin .geq (.tmp 17) (.con (.int .u8 48))))⟩
  (.op ⟨(some 19), none, (.p (.val (.tmp 18)))⟩
  (.op ⟨(some 20), (some (19, true)), (.p (.val (.tmp 0)))⟩
  (.op ⟨(some 21), (some (19, true)), (.p (.bin .leq (.tmp 20) (.con (.int .u8 57))))⟩
  (.op ⟨(some 22), none, (.p (.pick (.tmp 19) (.tmp 21) (.con (.bool false))))⟩
  (.op ⟨(some 4), none, (.p (.val (.tmp 22)))⟩
  .done))))))))))))
 (.cond (.tmp 4)
 (.exit 1)
 .skip))
 (.seq (.seq (.seq (.ops [] (.op ⟨(some 24), none, (.p (.val (.tmp 0)))⟩
  (.op ⟨(some 25), none, (.p (.bin .eql (.tmp 24) (.con (.int .u8 45))))⟩
  (.op ⟨(some 23), none, (.p (.val (.tmp 25)))⟩
  .done))))
 (.cond (.tmp 23)
 .skip
 (.seq (.ops [] (.op ⟨(some 26), none, (.p (.val (.tmp 0)))⟩
  (.op ⟨(some 27), none, (.p (.bin .eql (.tmp 26) (.con (.int .u8 95))))⟩
  (.op ⟨(some 23), none, (.p (.val (.tmp 27)))⟩
  .done))))
 (.cond (.tmp 23)
 .skip
 (.ops [] (.op ⟨(some 28), none, (.p (.val (.tmp 0)))⟩
  (.op ⟨(some 29), none, (.p (.bin .eql (.tmp 28) (.con (.int .u8 46))))⟩
  (.op ⟨(some 23), none, (.p (.val (.tmp 29)))⟩
  .done))))))))
 (.cond (.tmp 23)
 (.exit 2)
 .skip))
 (.seq (.ops [] (.op ⟨(some 31), none, (.p (.val (.tmp 0)))⟩
  (.op ⟨(some 32), none, (.p (.bin .eql (.tmp 31) (.con (.int .u8 47))))⟩
  (.op ⟨(some 30), none, (.p (.val (.tmp 32)))⟩
  .done))))
 (.cond (.tmp 30)
 (.exit 3)
 .skip))))
 (.exit 0))))
 (.ops [] (.op ⟨(some 33), none, (.p (.val (.tmp 3)))⟩
  (.op ⟨(some 34), none, (.p (.bin .add (.tmp 33) (.con (.int .i64 1))))⟩
  (.op ⟨(some 3), none, (.p (.val (.tmp 34)))⟩
  .done))))))
 (.seq (.ops [] (.op ⟨(some 35), none, (.p (.val (.tmp 3)))⟩
  (.op ⟨(some 36), none, (.p (.bin .add (.tmp 35) (.con (.int .i64 1))))⟩
  (.op ⟨(some 3), none, (.p (.val (.tmp 36)))⟩
  .done))))
 (.exit 0))))
 (.seq (.ops [] (.op ⟨(some 37), none, (.p (.val (.tmp 3)))⟩
  (.op ⟨(some 2), none, (.p (.val (.tmp 37)))⟩
  .done)))
 .ret))))⟩
theorem i163_is : compFunc Tryz.prog ⟨[], [], []⟩ [] 163 = some i163 := by kernel_rfl

/-- baton/labels.letter -/
def i164 : IFn := ⟨2, 30, [.tmp 4],
 (.seq (.ops [] (.op ⟨(some 4), none, (.p (.val (.con (.bool false))))⟩
  .done))
 (.seq (.block 0 (.seq (.seq (.ops [] (.op ⟨(some 6), none, (.p (.val (.tmp 0)))⟩
  (.op ⟨(some 7), none, (.p (.bin .geq (.tmp 6) (.con (.int .u8 97))))⟩
  (.op ⟨(some 8), none, (.p (.val (.tmp 7)))⟩
  (.op ⟨(some 9), (some (8, true)), (.p (.val (.tmp 0)))⟩
  (.op ⟨(some 10), (some (8, true)), (.p (.bin .leq (.tmp 9) (.con (.int .u8 122))))⟩
  (.op ⟨(some 11), none, (.p (.pick (.tmp 8) (.tmp 10) (.con (.bool false))))⟩
  (.op ⟨(some 5), none, (.p (.val (.tmp 11)))⟩
  .done))))))))
 (.cond (.tmp 5)
 .skip
 (.seq (.ops [] (.op ⟨(some 12), none, (.p (.val (.tmp 0)))⟩
  (.op ⟨(some 13), none, (.p (.bin .geq (.tmp 12) (.con (.int .u8 65))))⟩
  (.op ⟨(some 14), none, (.p (.val (.tmp 13)))⟩
  (.op ⟨(some 15), (some (14, true)), (.p (.val (.tmp 0)))⟩
  (.op ⟨(some 16), (some (14, true)), (.p (.bin .leq (.tmp 15) (.con (.int .u8 90))))⟩
  (.op ⟨(some 17), none, (.p (.pick (.tmp 14) (.tmp 16) (.con (.bool false))))⟩
  (.op ⟨(some 5), none, (.p (.val (.tmp 17)))⟩
  .done))))))))
 (.cond (.tmp 5)
 .skip
 (.ops [] (.op ⟨(some 18), none, (.p (.val (.tmp 0)))⟩
  (.op ⟨(some 19), none, (.p (.bin .eql (.tmp 18) (.con (.int .u8 95))))⟩
  (.op ⟨(some 5), none, (.p (.val (.tmp 19)))⟩
  .done))))))))
 (.cond (.tmp 5)
 (.seq (.ops [] (.op ⟨(some 4), none, (.p (.val (.con (.bool true))))⟩
  .done))
 .ret)
 .skip)))
 (.seq (.ops [] (.op ⟨(some 20), none, (.p (.val (.tmp 0)))⟩
  (.op ⟨(some 21), none, (.p (.bin .geq (.tmp 20) (.con (.int .u8 48))))⟩
  (.op ⟨(some 22), none, (.p (.val (.tmp 21)))⟩
  (.op ⟨(some 23), (some (22, true)), (.p (.val (.tmp 0)))⟩
  (.op ⟨(some 24), (some (22, true)), (.p (.bin .leq (.tmp 23) (.con (.int .u8 57))))⟩
  (.op ⟨(some 25), none, (.p (.pick (.tmp 22) (.tmp 24) (.con (.bool false))))⟩
  (.op ⟨(some 26), none, (.p (.val (.tmp 25)))⟩
  (.op ⟨(some 27), (some (26, true)), (.p (.val (.tmp 1)))⟩
  (.op ⟨(some 28), (some (26, true)), (.p (.un .not (.tmp 27)))⟩
  (.op ⟨(some 29), none, (.p (.pick (.tmp 26) (.tmp 28) (.con (.bool false))))⟩
  (.op ⟨(some 4), none, (.p (.val (.tmp 29)))⟩
  .done))))))))))))
 .ret)))⟩
theorem i164_is : compFunc Tryz.prog ⟨[], [], []⟩ [] 164 = some i164 := by kernel_rfl

/-- unicode/utf8.ValidString -/
def i165 : IFn := ⟨1, 169, [.tmp 2],
 (.seq (.ops [] (.op ⟨(some 2), none, (.p (.val (.con (.bool false))))⟩
  .done))
 (.seq (.block 0 (.loop (.seq (.seq (.ops [] (.op ⟨(some 7), none, (.p (.val (.tmp 0)))⟩
  (.op ⟨(some 8), none, (.p (.lens (.tmp 7)))⟩
  (.op ⟨(some 9), none, (.p (.bin .gtr (.tmp 8) (.con (.int .i64 0))))⟩
  .done))))
 (.cond (.tmp 9)
 .skip
 (.exit 0)))
 (.block 1 (.seq (.ops [] (.op ⟨(some 10), none, (.p (.val (.tmp 0)))⟩
  (.op ⟨(some 11), none, (.p (.idxs (.tmp 10) (.con (.int .i64 0))))⟩
  (.op ⟨(some 3), none, (.p (.val (.tmp 11)))⟩
  .done))))
 (.seq (.seq (.ops [] (.op ⟨(some 12), none, (.p (.val (.tmp 3)))⟩
  (.op ⟨(some 13), none, (.p (.bin .lss (.tmp 12) (.con (.int .u8 128))))⟩
  .done)))
 (.cond (.tmp 13)
 (.seq (.ops [] (.op ⟨(some 14), none, (.p (.val (.tmp 0)))⟩
  (.op ⟨(some 15), none, (.p (.sls (.tmp 14) (some (.con (.int .i64 1))) none))⟩
  (.op ⟨(some 0), none, (.p (.val (.tmp 15)))⟩
  .done))))
 (.seq (.seq (.ops [] (.op ⟨(some 16), none, (.p (.val (.tmp 0)))⟩
  (.op ⟨(some 17), none, (.p (.lens (.tmp 16)))⟩
  (.op ⟨(some 18), none, (.p (.bin .gtr (.tmp 17) (.con (.int .i64 8))))⟩
  (.op ⟨(some 19), none, (.p (.val (.tmp 18)))⟩
  (.op ⟨(some 20), (some (19, true)), (.p (.val (.tmp 0)))⟩
  (.op ⟨(some 21), (some (19, true)), (.call 181 [(.tmp 20)])⟩
  (.op ⟨(some 22), (some (19, true)), (.p (.bin .and (.tmp 21) (.con (.int .u64 9259542123273814144))))⟩
  (.op ⟨(some 23), (some (19, true)), (.p (.bin .eql (.tmp 22) (.con (.int .u64 0))))⟩
  (.op ⟨(some 24), none, (.p (.pick (.tmp 19) (.tmp 23) (.con (.bool false))))⟩
  .done))))))))))
 (.cond (.tmp 24)
 (.seq (.ops [] (.op ⟨(some 25), none, (.p (.val (.tmp 0)))⟩
  (.op ⟨(some 26), none, (.p (.sls (.tmp 25) (some (.con (.int .i64 8))) none))⟩
  (.op ⟨(some 0), none, (.p (.val (.tmp 26)))⟩
  .done))))
 (.seq (.ops [] (.op ⟨(some 27), none, (.p (.val (.tmp 0)))⟩
  (.op ⟨(some 28), none, (.p (.lens (.tmp 27)))⟩
  (.op ⟨(some 29), none, (.p (.bin .gtr (.tmp 28) (.con (.int .i64 16))))⟩
  (.op ⟨(some 30), none, (.p (.val (.tmp 29)))⟩
  (.op ⟨(some 31), (some (30, true)), (.p (.val (.tmp 0)))⟩
  (.op ⟨(some 33), (some (30, true)), (.p (.val (.tmp 0)))⟩
  (.op ⟨(some 34), (some (30, true)), (.p (.sls (.tmp 33) (some (.con (.int .i64 8))) none))⟩
  (.op ⟨(some 32), (some (30, true)), (.call 181 [(.tmp 31)])⟩
  (.op ⟨(some 35), (some (30, true)), (.call 181 [(.tmp 34)])⟩
  (.op ⟨(some 36), (some (30, true)), (.p (.bin .or (.tmp 32) (.tmp 35)))⟩
  (.op ⟨(some 37), (some (30, true)), (.p (.bin .and (.tmp 36) (.con (.int .u64 9259542123273814144))))⟩
  (.op ⟨(some 38), (some (30, true)), (.p (.bin .eql (.tmp 37) (.con (.int .u64 0))))⟩
  (.op ⟨(some 39), none, (.p (.pick (.tmp 30) (.tmp 38) (.con (.bool false))))⟩
  .done))))))))))))))
 (.cond (.tmp 39)
 (.seq (.ops [] (.op ⟨(some 40), none, (.p (.val (.tmp 0)))⟩
  (.op ⟨(some 41), none, (.p (.sls (.tmp 40) (some (.con (.int .i64 16))) none))⟩
  (.op ⟨(some 0), none, (.p (.val (.tmp 41)))⟩
  .done))))
 (.block 2 (.loop (.seq (.seq (.ops [] (.op ⟨(some 42), none, (.p (.val (.tmp 0)))⟩
  (.op ⟨(some 43), none, (.p (.lens (.tmp 42)))⟩
  (.op ⟨(some 44), none, (.p (.bin .gtr (.tmp 43) (.con (.int .i64 32))))⟩
  (.op ⟨(some 45), none, (.p (.val (.tmp 44)))⟩
  (.op ⟨(some 46), (some (45, true)), (.p (.val (.tmp 0)))⟩
  (.op ⟨(some 48), (some (45, true)), (.p (.val (.tmp 0)))⟩
  (.op ⟨(some 49), (some (45, true)), (.p (.sls (.tmp 48) (some (.con (.int .i64 8))) none))⟩
  (.op ⟨(some 52), (some (45, true)), (.p (.val (.tmp 0)))⟩
  (.op ⟨(some 53), (some (45, true)), (.p (.sls (.tmp 52) (some (.con (.int .i64 16))) none))⟩
  (.op ⟨(some 55), (some (45, true)), (.p (.val (.tmp 0)))⟩
  (.op ⟨(some 56), (some (45, true)), (.p (.sls (.tmp 55) (some (.con (.int .i64 24))) none))⟩
  (.op ⟨(some 47), (some (45, true)), (.call 181 [(.tmp 46)])⟩
  (.op ⟨(some 50), (some (45, true)), (.call 181 [(.tmp 49)])⟩
  (.op ⟨(some 51), (some (45, true)), (.p (.bin .or (.tmp 47) (.tmp 50)))⟩
  (.op ⟨(some 54), (some (45, true)), (.call 181 [(.tmp 53)])⟩
  (.op ⟨(some 57), (some (45, true)), (.call 181 [(.tmp 56)])⟩
  (.op ⟨(some 58), (some (45, true)), (.p (.bin .or (.tmp 54) (.tmp 57)))⟩
  (.op ⟨(some 59), (some (45, true)), (.p (.bin .or (.tmp 51) (.tmp 58)))⟩
  (.op ⟨(some 60), (some (45, true)), (.p (.bin .and (.tmp 59) (.con (.int .u64 9259542123273814144))))⟩
  (.op ⟨(some 61), (some (45, true)), (.p (.bin .eql (.tmp 60) (.con (.int .u64 0))))⟩
  (.op ⟨(some 62), none, (.p (.pick (.tmp 45) (.tmp 61) (.con (.bool false))))⟩
  .done))))))))))))))))))))))
 (.cond (.tmp 62)
 .skip
 (.exit 2)))
 (.block 3 (.ops [] (.op ⟨(some 63), none, (.p (.val (.tmp 0)))⟩
  (.op ⟨(some 64), none, (.p (.sls (.tmp 63) (some (.con (.int .i64 32))) none))⟩
  (.op ⟨(some 0), none, (.p (.val (.tmp 64)))⟩
  .done)))))))))
 .skip)))
 .skip))
 (.exit 1)))
 .skip))
 (.seq (.ops [] (.op ⟨(some 65), none, (.p (.val (.tmp 3)))⟩
  (.op ⟨(some 66), none, (.p (.iaddra 1 256 (.glob 2) (.tmp 65)))⟩
  (.op ⟨(some 67), none, (.load false 1 (.tmp 66))⟩
  (.op ⟨(some 4), none, (.p (.val (.tmp 67)))⟩
  .done)))))
 (.seq (.ops [] (.op ⟨(some 68), none, (.p (.val (.tmp 4)))⟩
  (.op ⟨(some 69), none, (.p (.bin .and (.tmp 68) (.con (.int .u8 7))))⟩
  (.op ⟨(some 70), none, (.p (.cvi .i64 (.tmp 69)))⟩
  (.op ⟨(some 5), none, (.p (.val (.tmp 70)))⟩
  .done)))))
 (.seq (.ops [] (.op ⟨(some 71), none, (.p (.val (.tmp 4)))⟩
  (.op ⟨(some 72), none, (.p (.bin .shr (.tmp 71) (.con (.int .u64 4))))⟩
  (.op ⟨(some 73), none, (.p (.iaddra 2 16 (.glob 3) (.tmp 72)))⟩
  (.op ⟨(some 74), none, (.load true 2 (.tmp 73))⟩
  (.op ⟨(some 6), none, (.alloc [(.int .u8 0), (.int .u8 0)])⟩
  (.op ⟨(some 6), none, (.storef 6 2 (.tmp 74))⟩
  .done)))))))
 (.seq (.ops [] (.op ⟨(some 75), none, (.p (.val (.tmp 5)))⟩
  .done))
 (.block 4 (.seq (.ops [] (.op ⟨(some 77), none, (.p (.bin .eql (.tmp 75) (.con (.int .i64 2))))⟩
  (.op ⟨(some 76), none, (.p (.val (.tmp 77)))⟩
  .done)))
 (.cond (.tmp 76)
 (.seq (.seq (.ops [] (.op ⟨(some 78), none, (.p (.val (.tmp 0)))⟩
  (.op ⟨(some 79), none, (.p (.lens (.tmp 78)))⟩
  (.op ⟨(some 80), none, (.p (.bin .lss (.tmp 79) (.con (.int .i64 2))))⟩
  (.op ⟨(some 81), none, (.p (.val (.tmp 80)))⟩
  (.op ⟨(some 82), (some (81, false)), (.p (.val (.tmp 0)))⟩
  (.op ⟨(some 83), (some (81, false)), (.p (.idxs (.tmp 82) (.con (.int .i64 1))))⟩
  (.op ⟨(some 84), (some (81, false)), (.p (.faddr 0 (.tmp 6)))⟩
  (.op ⟨(some 85), (some (81, false)), (.p (.loadi false 1 (.tmp 84)))⟩
  (.op ⟨(some 86), (some (81, false)), (.p (.bin .lss (.tmp 83) (.tmp 85)))⟩
  (.op ⟨(some 87), none, (.p (.pick (.tmp 81) (.con (.bool true)) (.tmp 86)))⟩
  (.op ⟨(some 88), none, (.p (.val (.tmp 87)))⟩
  (.op ⟨(some 89), (some (88, false)), (.p (.faddr 1 (.tmp 6)))⟩
  (.op ⟨(some 90), (some (88, false)), (.p (.loadi false 1 (.tmp 89)))⟩
  (.op ⟨(some 91), (some (88, false)), (.p (.val (.tmp 0)))⟩
  (.op ⟨(some 92), (some (88, false)), (.p (.idxs (.tmp 91) (.con (.int .i64 1))))⟩
  (.op ⟨(some 93), (some (88, false)), (.p (.bin .lss (.tmp 90) (.tmp 92)))⟩
  (.op ⟨(some 94), none, (.p (.pick (.tmp 88) (.con (.bool true)) (.tmp 93)))⟩
  .done))))))))))))))))))
 (.cond (.tmp 94)
 (.seq (.ops [] (.op ⟨(some 2), none, (.p (.val (.con (.bool false))))⟩
  .done))
 .ret)
 .skip))
 (.ops [] (.op ⟨(some 95), none, (.p (.val (.tmp 0)))⟩
  (.op ⟨(some 96), none, (.p (.sls (.tmp 95) (some (.con (.int .i64 2))) none))⟩
  (.op ⟨(some 0), none, (.p (.val (.tmp 96)))⟩
  .done)))))
 (.seq (.ops [] (.op ⟨(some 98), none, (.p (.bin .eql (.tmp 75) (.con (.int .i64 3))))⟩
  (.op ⟨(some 97), none, (.p (.val (.tmp 98)))⟩
  .done)))
 (.cond (.tmp 97)
 (.seq (.seq (.ops [] (.op ⟨(some 99), none, (.p (.val (.tmp 0)))⟩
  (.op ⟨(some 100), none, (.p (.lens (.tmp 99)))⟩
  (.op ⟨(some 101), none, (.p (.bin .lss (.tmp 100) (.con (.int .i64 3))))⟩
  (.op ⟨(some 102), none, (.p (.val (.tmp 101)))⟩
  (.op ⟨(some 103), (some (102, false)), (.p (.val (.tmp 0)))⟩
  (.op ⟨(some 104), (some (102, false)), (.p (.idxs (.tmp 103) (.con (.int .i64 1))))⟩
  (.op ⟨(some 105), (some (102, false)), (.p (.faddr 0 (.tmp 6)))⟩
  (.op ⟨(some 106), (some (102, false)), (.p (.loadi false 1 (.tmp 105)))⟩
  (.op ⟨(some 107), (some (102, false)), (.p (.bin .lss (.tmp 104) (.tmp 106)))⟩
  (.op ⟨(some 108), none, (.p (.pick (.tmp 102) (.con (.bool true)) (.tmp 107)))⟩
  (.op ⟨(some 109), none, (.p (.val (.tmp 108)))⟩
  (.op ⟨(some 110), (some (109, false)), (.p (.faddr 1 (.tmp 6)))⟩
  (.op ⟨(some 111), (some (109, false)), (.p (.loadi false 1 (.tmp 110)))⟩
  (.op ⟨(some 112), (some (109, false)), (.p (.val (.tmp 0)))⟩
  (.op ⟨(some 113), (some (109, false)), (.p (.idxs (.tmp 112) (.con (.int .i64 1))))⟩
  (.op ⟨(some 114), (some (109, false)), (.p (.bin .lss (.tmp 111) (.tmp 113)))⟩
  (.op ⟨(some 115), none, (.p (.pick (.tmp 109) (.con (.bool true)) (.tmp 114)))⟩
  (.op ⟨(some 116), none, (.p (.val (.tmp 115)))⟩
  (.op ⟨(some 117), (some (116, false)), (.p (.val (.tmp 0)))⟩
  (.op ⟨(some 118), (some (116, false)), (.p (.idxs (.tmp 117) (.con (.int .i64 2))))⟩
  (.op ⟨(some 119), (some (116, false)), (.p (.bin .lss (.tmp 118) (.con (.int .u8 128))))⟩
  (.op ⟨(some 120), none, (.p (.pick (.tmp 116) (.con (.bool true)) (.tmp 119)))⟩
  (.op ⟨(some 121), none, (.p (.val (.tmp 120)))⟩
  (.op ⟨(some 122), (some (121, false)), (.p (.val (.tmp 0)))⟩
  (.op ⟨(some 123), (some (121, false)), (.p (.idxs (.tmp 122) (.con (.int .i64 2))))⟩
  (.op ⟨(some 124), (some (121, false)), (.p (.bin .lss (.con (.int .u8 191)) (.tmp 123)))⟩
  (.op ⟨(some 125), none, (.p (.pick (.tmp 121) (.con (.bool true)) (.tmp 124)))⟩
  .done))))))))))))))))))))))))))))
 (.cond (.tmp 125)
 (.seq (.ops [] (.op ⟨(some 2), none, (.p (.val (.con (.bool false))))⟩
  .done))
 .ret)
 .skip))
 (.ops [] (.op ⟨(some 126), none, (.p (.val (.tmp 0)))⟩
  (.op ⟨(some 127), none, (.p (.sls (.tmp 126) (some (.con (.int .i64 3))) none))⟩
  (.op ⟨(some 0), none, (.p (.val (.tmp 127)))⟩
  .done)))))
 (.seq (.ops [] (.op ⟨(some 129), none, (.p (.bin .eql (.tmp 75) (.con (.int .i64 4))))⟩
  (.op ⟨(some 128), none, (.p (.val (.tmp 129)))⟩
  .done)))
 (.cond (.tmp 128)
 (.seq (.seq (.ops [] (.op ⟨(some 130), none, (.p (.val (.tmp 0)))⟩
  (.op ⟨(some 131), none, (.p (.lens (.tmp 130)))⟩
  (.op ⟨(some 132), none, (.p (.bin .lss (.tmp 131) (.con (.int .i64 4))))⟩
  (.op ⟨(some 133), none, (.p (.val (.tmp 132)))⟩
  (.op ⟨(some 134), (some (133, false)), (.p (.val (.tmp 0)))⟩
  (.op ⟨(some 135), (some (133, false)), (.p (.idxs (.tmp 134) (.con (.int .i64 1))))⟩
  (.op ⟨(some 136), (some (133, false)), (.p (.faddr 0 (.tmp 6)))⟩
  (.op ⟨(some 137), (some (133, false)), (.p (.loadi false 1 (.tmp 136)))⟩
  (.op ⟨(some 138), (some (133, false)), (.p (.bin .lss (.tmp 135) (.tmp 137)))⟩
  (.op ⟨(some 139), none, (.p (.pick (.tmp 133) (.con (.bool true)) (.tmp 138)))⟩
  (.op ⟨(some 140), none, (.p (.val (.tmp 139)))⟩
  (.op ⟨(some 141), (some (140, false)), (.p (.faddr 1 (.tmp 6)))⟩
  (.op ⟨(some 142), (some (140, false)), (.p (.loadi false 1 (.tmp 141)))⟩
  (.op ⟨(some 143), (some (140, false)), (.p (.val (.tmp 0)))⟩
  (.op ⟨(some 144), (some (140, false)), (.p (.idxs (.tmp 143) (.con (.int .i64 1))))⟩
  (.op ⟨(some 145), (some (140, false)), (.p (.bin .lss (.tmp 142) (.tmp 144)))⟩
  (.op ⟨(some 146), none, (.p (.pick (.tmp 140) (.con (.bool true)) (.tmp 145)))⟩
  (.op ⟨(some 147), none, (.p (.val (.tmp 146)))⟩
  (.op ⟨(some 148), (some (147, false)), (.p (.val (.tmp 0)))⟩
  (.op ⟨(some 149), (some (147, false)), (.p (.idxs (.tmp 148) (.con (.int .i64 2))))⟩
  (.op ⟨(some 150), (some (147, false)), (.p (.bin .lss (.tmp 149) (.con (.int .u8 128))))⟩
  (.op ⟨(some 151), none, (.p (.pick (.tmp 147) (.con (.bool true)) (.tmp 150)))⟩
  (.op ⟨(some 152), none, (.p (.val (.tmp 151)))⟩
  (.op ⟨(some 153), (some (152, false)), (.p (.val (.tmp 0)))⟩
  (.op ⟨(some 154), (some (152, false)), (.p (.idxs (.tmp 153) (.con (.int .i64 2))))⟩
  (.op ⟨(some 155), (some (152, false)), (.p (.bin .lss (.con (.int .u8 191)) (.tmp 154)))⟩
  (.op ⟨(some 156), none, (.p (.pick (.tmp 152) (.con (.bool true)) (.tmp 155)))⟩
  (.op ⟨(some 157), none, (.p (.val (.tmp 156)))⟩
  (.op ⟨(some 158), (some (157, false)), (.p (.val (.tmp 0)))⟩
  (.op ⟨(some 159), (some (157, false)), (.p (.idxs (.tmp 158) (.con (.int .i64 3))))⟩
  (.op ⟨(some 160), (some (157, false)), (.p (.bin .lss (.tmp 159) (.con (.int .u8 128))))⟩
  (.op ⟨(some 161), none, (.p (.pick (.tmp 157) (.con (.bool true)) (.tmp 160)))⟩
  (.op ⟨(some 162), none, (.p (.val (.tmp 161)))⟩
  (.op ⟨(some 163), (some (162, false)), (.p (.val (.tmp 0)))⟩
  (.op ⟨(some 164), (some (162, false)), (.p (.idxs (.tmp 163) (.con (.int .i64 3))))⟩
  (.op ⟨(some 165), (some (162, false)), (.p (.bin .lss (.con (.int .u8 191)) (.tmp 164)))⟩
  (.op ⟨(some 166), none, (.p (.pick (.tmp 162) (.con (.bool true)) (.tmp 165)))⟩
  .done))))))))))))))))))))))))))))))))))))))
 (.cond (.tmp 166)
 (.seq (.ops [] (.op ⟨(some 2), none, (.p (.val (.con (.bool false))))⟩
  .done))
 .ret)
 .skip))
 (.ops [] (.op ⟨(some 167), none, (.p (.val (.tmp 0)))⟩
  (.op ⟨(some 168), none, (.p (.sls (.tmp 167) (some (.con (.int .i64 4))) none))⟩
  (.op ⟨(some 0), none, (.p (.val (.tmp 168)))⟩
  .done)))))
 (.seq (.ops [] (.op ⟨(some 2), none, (.p (.val (.con (.bool false))))⟩
  .done))
 .ret))))))))))))))))))
 (.seq (.ops [] (.op ⟨(some 2), none, (.p (.val (.con (.bool true))))⟩
  .done))
 .ret)))⟩
theorem i165_is : compFunc Tryz.prog ⟨[6], [], [6, 84, 89, 105, 110, 136, 141]⟩ [] 165 = some i165 := by kernel_rfl

/-- baton/series.mayTime -/
def i167 : IFn := ⟨1, 9, [.tmp 2],
 (.seq (.ops [] (.op ⟨(some 2), none, (.p (.val (.con (.bool false))))⟩
  .done))
 (.seq (.ops [] (.op ⟨(some 3), none, (.p (.val (.tmp 0)))⟩
  (.op ⟨(some 4), none, (.p (.bin .geq (.tmp 3) (.con (.int .i64 0))))⟩
  (.op ⟨(some 5), none, (.p (.val (.tmp 4)))⟩
  (.op ⟨(some 6), (some (5, true)), (.p (.val (.tmp 0)))⟩
  (.op ⟨(some 7), (some (5, true)), (.p (.bin .leq (.tmp 6) (.con (.int .i64 1125899906842624))))⟩
  (.op ⟨(some 8), none, (.p (.pick (.tmp 5) (.tmp 7) (.con (.bool false))))⟩
  (.op ⟨(some 2), none, (.p (.val (.tmp 8)))⟩
  .done))))))))
 .ret))⟩
theorem i167_is : compFunc Tryz.prog ⟨[], [], []⟩ [] 167 = some i167 := by kernel_rfl

/-- baton/bits.Uvarint -/
def i169 : IFn := ⟨2, 59, [.tmp 4, .tmp 5, .tmp 6],
 (.seq (.ops [] (.op ⟨(some 4), none, (.p (.val (.con (.int .u64 0))))⟩
  (.op ⟨(some 5), none, (.p (.val (.con (.int .i64 0))))⟩
  (.op ⟨(some 6), none, (.p (.val (.con (.int .i64 0))))⟩
  .done))))
 (.seq (.seq (.ops [] (.op ⟨(some 9), none, (.p (.val (.tmp 1)))⟩
  (.op ⟨(some 10), none, (.p (.bin .lss (.tmp 9) (.con (.int .i64 0))))⟩
  (.op ⟨(some 11), none, (.p (.val (.tmp 10)))⟩
  (.op ⟨(some 12), (some (11, false)), (.p (.val (.tmp 1)))⟩
  (.op ⟨(some 13), (some (11, false)), (.p (.val (.tmp 0)))⟩
  (.op ⟨(some 14), (some (11, false)), (.p (.lens (.tmp 13)))⟩
  (.op ⟨(some 15), (some (11, false)), (.p (.bin .gtr (.tmp 12) (.tmp 14)))⟩
  (.op ⟨(some 16), none, (.p (.pick (.tmp 11) (.con (.bool true)) (.tmp 15)))⟩
  .done)))))))))
 (.cond (.tmp 16)
 (.seq (.ops [] (.op ⟨(some 4), none, (.p (.val (.con (.int .u64 0))))⟩
  (.op ⟨(some 5), none, (.p (.val (.con (.int .i64 0))))⟩
  (.op ⟨(some 6), none, (.p (.val (.con (.int .i64 1))))⟩
  .done))))
 .ret)
 .skip))
 (.seq (.ops [] (.op ⟨(some 7), none, (.p (.val (.con (.int .i64 0))))⟩
  .done))
 (.seq .skip
 (.seq (.block 0 (.loop (.seq (.block 1 (.seq (.seq (.ops [] (.op ⟨(some 19), none, (.p (.val (.tmp 1)))⟩
  (.op ⟨(some 20), none, (.p (.val (.tmp 7)))⟩
  (.op ⟨(some 21), none, (.p (.bin .add (.tmp 19) (.tmp 20)))⟩
  (.op ⟨(some 22), none, (.p (.val (.tmp 0)))⟩
  (.op ⟨(some 23), none, (.p (.lens (.tmp 22)))⟩
  (.op ⟨(some 24), none, (.p (.bin .eql (.tmp 21) (.tmp 23)))⟩
  .done)))))))
 (.cond (.tmp 24)
 (.seq (.ops [] (.op ⟨(some 4), none, (.p (.val (.con (.int .u64 0))))⟩
  (.op ⟨(some 5), none, (.p (.val (.con (.int .i64 0))))⟩
  (.op ⟨(some 6), none, (.p (.val (.con (.int .i64 8))))⟩
  .done))))
 .ret)
 .skip))
 (.seq (.ops [] (.op ⟨(some 25), none, (.p (.val (.tmp 0)))⟩
  (.op ⟨(some 26), none, (.p (.val (.tmp 1)))⟩
  (.op ⟨(some 27), none, (.p (.val (.tmp 7)))⟩
  (.op ⟨(some 28), none, (.p (.bin .add (.tmp 26) (.tmp 27)))⟩
  (.op ⟨(some 29), none, (.p (.idxs (.tmp 25) (.tmp 28)))⟩
  (.op ⟨(some 30), none, (.p (.cvi .u64 (.tmp 29)))⟩
  (.op ⟨(some 8), none, (.p (.val (.tmp 30)))⟩
  .done))))))))
 (.seq (.block 2 (.seq (.ops [] (.op ⟨(some 32), none, (.p (.val (.tmp 7)))⟩
  (.op ⟨(some 33), none, (.p (.bin .eql (.tmp 32) (.con (.int .i64 9))))⟩
  (.op ⟨(some 34), none, (.p (.val (.tmp 33)))⟩
  (.op ⟨(some 35), (some (34, true)), (.p (.val (.tmp 8)))⟩
  (.op ⟨(some 36), (some (34, true)), (.p (.bin .gtr (.tmp 35) (.con (.int .u64 1))))⟩
  (.op ⟨(some 37), none, (.p (.pick (.tmp 34) (.tmp 36) (.con (.bool false))))⟩
  (.op ⟨(some 31), none, (.p (.val (.tmp 37)))⟩
  .done))))))))
 (.cond (.tmp 31)
 (.seq (.ops [] (.op ⟨(some 4), none, (.p (.val (.con (.int .u64 0))))⟩
  (.op ⟨(some 5), none, (.p (.val (.con (.int .i64 0))))⟩
  (.op ⟨(some 6), none, (.p (.val (.con (.int .i64 4))))⟩
  .done))))
 .ret)
 (.seq (.ops [] (.op ⟨(some 39), none, (.p (.val (.tmp 8)))⟩
  (.op ⟨(some 40), none, (.p (.bin .lss (.tmp 39) (.con (.int .u64 128))))⟩
  (.op ⟨(some 38), none, (.p (.val (.tmp 40)))⟩
  .done))))
 (.cond (.tmp 38)
 (.seq (.ops [] (.op ⟨(some 41), none, (.p (.val (.tmp 4)))⟩
  (.op ⟨(some 42), none, (.p (.val (.tmp 8)))⟩
  (.op ⟨(some 43), none, (.p (.val (.tmp 7)))⟩
  (.op ⟨(some 44), none, (.p (.bin .mul (.con (.int .i64 7)) (.tmp 43)))⟩
  (.op ⟨(some 45), none, (.p (.bin .shl (.tmp 42) (.tmp 44)))⟩
  (.op ⟨(some 46), none, (.p (.bin .or (.tmp 41) (.tmp 45)))⟩
  (.op ⟨(some 4), none, (.p (.val (.tmp 46)))⟩
  .done))))))))
 (.exit 0))
 .skip)))))
 (.ops [] (.op ⟨(some 47), none, (.p (.val (.tmp 4)))⟩
  (.op ⟨(some 48), none, (.p (.val (.tmp 8)))⟩
  (.op ⟨(some 49), none, (.p (.bin .andNot (.tmp 48) (.con (.int .u64 128))))⟩
  (.op ⟨(some 50), none, (.p (.val (.tmp 7)))⟩
  (.op ⟨(some 51), none, (.p (.bin .mul (.con (.int .i64 7)) (.tmp 50)))⟩
  (.op ⟨(some 52), none, (.p (.bin .shl (.tmp 49) (.tmp 51)))⟩
  (.op ⟨(some 53), none, (.p (.bin .or (.tmp 47) (.tmp 52)))⟩
  (.op ⟨(some 4), none, (.p (.val (.tmp 53)))⟩
  .done)))))))))))))
 (.ops [] (.op ⟨(some 17), none, (.p (.val (.tmp 7)))⟩
  (.op ⟨(some 18), none, (.p (.bin .add (.tmp 17) (.con (.int .i64 1))))⟩
  (.op ⟨(some 7), none, (.p (.val (.tmp 18)))⟩
  .done)))))))
 (.seq (.ops [] (.op ⟨(some 54), none, (.p (.val (.tmp 4)))⟩
  (.op ⟨(some 55), none, (.p (.val (.tmp 1)))⟩
  (.op ⟨(some 56), none, (.p (.val (.tmp 7)))⟩
  (.op ⟨(some 57), none, (.p (.bin .add (.tmp 55) (.tmp 56)))⟩
  (.op ⟨(some 58), none, (.p (.bin .add (.tmp 57) (.con (.int .i64 1))))⟩
  (.op ⟨(some 4), none, (.p (.val (.tmp 54)))⟩
  (.op ⟨(some 5), none, (.p (.val (.tmp 58)))⟩
  (.op ⟨(some 6), none, (.p (.val (.con (.int .i64 0))))⟩
  .done)))))))))
 .ret))))))⟩
theorem i169_is : compFunc Tryz.prog ⟨[], [], []⟩ [] 169 = some i169 := by kernel_rfl

/-- (*baton/bits.Reader).take -/
def i170 : IFn := ⟨3, 17, [.tmp 6],
 (.seq (.ops [] (.op ⟨(some 6), none, (.p (.val (.con (.bool false))))⟩
  .done))
 (.seq (.seq (.ops [] (.op ⟨(some 7), none, (.p (.val (.tmp 2)))⟩
  (.op ⟨(some 8), none, (.p (.bin .neq (.tmp 7) (.con (.int .i64 0))))⟩
  .done)))
 (.cond (.tmp 8)
 (.seq (.ops [] (.op ⟨(some 9), none, (.p (.val (.tmp 0)))⟩
  (.op ⟨(some 10), none, (.p (.val (.tmp 2)))⟩
  (.op ⟨(some 11), none, (.p (.nilchk (.tmp 9)))⟩
  (.op ⟨(some 12), none, (.p (.faddr 2 (.tmp 11)))⟩
  (.op ⟨none, none, (.store 1 (.tmp 12) (.tmp 10))⟩
  .done))))))
 (.seq (.ops [] (.op ⟨(some 6), none, (.p (.val (.con (.bool false))))⟩
  .done))
 .ret))
 .skip))
 (.seq (.ops [] (.op ⟨(some 13), none, (.p (.val (.tmp 0)))⟩
  (.op ⟨(some 14), none, (.p (.val (.tmp 1)))⟩
  (.op ⟨(some 15), none, (.p (.nilchk (.tmp 13)))⟩
  (.op ⟨(some 16), none, (.p (.faddr 1 (.tmp 15)))⟩
  (.op ⟨none, none, (.store 1 (.tmp 16) (.tmp 14))⟩
  .done))))))
 (.seq (.ops [] (.op ⟨(some 6), none, (.p (.val (.con (.bool true))))⟩
  .done))
 .ret))))⟩
theorem i170_is : compFunc Tryz.prog ⟨[], [], []⟩ [] 170 = some i170 := by kernel_rfl

/-- baton/bits.Zag -/
def i171 : IFn := ⟨1, 11, [.tmp 2],
 (.seq (.ops [] (.op ⟨(some 2), none, (.p (.val (.con (.int .i64 0))))⟩
  .done))
 (.seq (.ops [] (.op ⟨(some 3), none, (.p (.val (.tmp 0)))⟩
  (.op ⟨(some 4), none, (.p (.bin .shr (.tmp 3) (.con (.int .u64 1))))⟩
  (.op ⟨(some 5), none, (.p (.cvi .i64 (.tmp 4)))⟩
  (.op ⟨(some 6), none, (.p (.val (.tmp 0)))⟩
  (.op ⟨(some 7), none, (.p (.bin .and (.tmp 6) (.con (.int .u64 1))))⟩
  (.op ⟨(some 8), none, (.p (.cvi .i64 (.tmp 7)))⟩
  (.op ⟨(some 9), none, (.p (.un .neg (.tmp 8)))⟩
  (.op ⟨(some 10), none, (.p (.bin .xor (.tmp 5) (.tmp 9)))⟩
  (.op ⟨(some 2), none, (.p (.val (.tmp 10)))⟩
  .done))))))))))
 .ret))⟩
theorem i171_is : compFunc Tryz.prog ⟨[], [], []⟩ [] 171 = some i171 := by kernel_rfl

/-- unicode/utf8.word[string] -/
def i181 : IFn := ⟨1, 59, [.tmp 2],
 (.seq (.ops [] (.op ⟨(some 2), none, (.p (.val (.con (.int .u64 0))))⟩
  .done))
 (.seq (.cond (.con (.bool false))
 (.seq (.ops [] (.op ⟨(some 3), none, (.p (.val (.tmp 0)))⟩
  (.op ⟨(some 4), none, (.p (.idxs (.tmp 3) (.con (.int .i64 0))))⟩
  (.op ⟨(some 5), none, (.p (.cvi .u64 (.tmp 4)))⟩
  (.op ⟨(some 6), none, (.p (.val (.tmp 0)))⟩
  (.op ⟨(some 7), none, (.p (.idxs (.tmp 6) (.con (.int .i64 1))))⟩
  (.op ⟨(some 8), none, (.p (.cvi .u64 (.tmp 7)))⟩
  (.op ⟨(some 9), none, (.p (.bin .shl (.tmp 8) (.con (.int .u64 8))))⟩
  (.op ⟨(some 10), none, (.p (.bin .or (.tmp 5) (.tmp 9)))⟩
  (.op ⟨(some 11), none, (.p (.val (.tmp 0)))⟩
  (.op ⟨(some 12), none, (.p (.idxs (.tmp 11) (.con (.int .i64 2))))⟩
  (.op ⟨(some 13), none, (.p (.cvi .u64 (.tmp 12)))⟩
  (.op ⟨(some 14), none, (.p (.bin .shl (.tmp 13) (.con (.int .u64 16))))⟩
  (.op ⟨(some 15), none, (.p (.bin .or (.tmp 10) (.tmp 14)))⟩
  (.op ⟨(some 16), none, (.p (.val (.tmp 0)))⟩
  (.op ⟨(some 17), none, (.p (.idxs (.tmp 16) (.con (.int .i64 3))))⟩
  (.op ⟨(some 18), none, (.p (.cvi .u64 (.tmp 17)))⟩
  (.op ⟨(some 19), none, (.p (.bin .shl (.tmp 18) (.con (.int .u64 24))))⟩
  (.op ⟨(some 20), none, (.p (.bin .or (.tmp 15) (.tmp 19)))⟩
  (.op ⟨(some 2), none, (.p (.val (.tmp 20)))⟩
  .done))))))))))))))))))))
 .ret)
 .skip)
 (.seq (.ops [] (.op ⟨(some 21), none, (.p (.val (.tmp 0)))⟩
  (.op ⟨(some 22), none, (.p (.idxs (.tmp 21) (.con (.int .i64 0))))⟩
  (.op ⟨(some 23), none, (.p (.cvi .u64 (.tmp 22)))⟩
  (.op ⟨(some 24), none, (.p (.val (.tmp 0)))⟩
  (.op ⟨(some 25), none, (.p (.idxs (.tmp 24) (.con (.int .i64 1))))⟩
  (.op ⟨(some 26), none, (.p (.cvi .u64 (.tmp 25)))⟩
  (.op ⟨(some 27), none, (.p (.bin .shl (.tmp 26) (.con (.int .u64 8))))⟩
  (.op ⟨(some 28), none, (.p (.bin .or (.tmp 23) (.tmp 27)))⟩
  (.op ⟨(some 29), none, (.p (.val (.tmp 0)))⟩
  (.op ⟨(some 30), none, (.p (.idxs (.tmp 29) (.con (.int .i64 2))))⟩
  (.op ⟨(some 31), none, (.p (.cvi .u64 (.tmp 30)))⟩
  (.op ⟨(some 32), none, (.p (.bin .shl (.tmp 31) (.con (.int .u64 16))))⟩
  (.op ⟨(some 33), none, (.p (.bin .or (.tmp 28) (.tmp 32)))⟩
  (.op ⟨(some 34), none, (.p (.val (.tmp 0)))⟩
  (.op ⟨(some 35), none, (.p (.idxs (.tmp 34) (.con (.int .i64 3))))⟩
  (.op ⟨(some 36), none, (.p (.cvi .u64 (.tmp 35)))⟩
  (.op ⟨(some 37), none, (.p (.bin .shl (.tmp 36) (.con (.int .u64 24))))⟩
  (.op ⟨(some 38), none, (.p (.bin .or (.tmp 33) (.tmp 37)))⟩
  (.op ⟨(some 39), none, (.p (.val (.tmp 0)))⟩
  (.op ⟨(some 40), none, (.p (.idxs (.tmp 39) (.con (.int .i64 4))))⟩
  (.op ⟨(some 41), none, (.p (.cvi .u64 (.tmp 40)))⟩
  (.op ⟨(some 42), none, (.p (.bin .shl (.tmp 41) (.con (.int .u64 32))))⟩
  (.op ⟨(some 43), none, (.p (.bin .or (.tmp 38) (.tmp 42)))⟩
  (.op ⟨(some 44), none, (.p (.val (.tmp 0)))⟩
  (.op ⟨(some 45), none, (.p (.idxs (.tmp 44) (.con (.int .i64 5))))⟩
  (.op ⟨(some 46), none, (.p (.cvi .u64 (.tmp 45)))⟩
  (.op ⟨(some 47), none, (.p (.bin .shl (.tmp 46) (.con (.int .u64 40))))⟩
  (.op ⟨(some 48), none, (.p (.bin .or (.tmp 43) (.tmp 47)))⟩
  (.op ⟨(some 49), none, (.p (.val (.tmp 0)))⟩
  (.op ⟨(some 50), none, (.p (.idxs (.tmp 49) (.con (.int .i64 6))))⟩
  (.op ⟨(some 51), none, (.p (.cvi .u64 (.tmp 50)))⟩
  (.op ⟨(some 52), none, (.p (.bin .shl (.tmp 51) (.con (.int .u64 48))))⟩
  (.op ⟨(some 53), none, (.p (.bin .or (.tmp 48) (.tmp 52)))⟩
  (.op ⟨(some 54), none, (.p (.val (.tmp 0)))⟩
  (.op ⟨(some 55), none, (.p (.idxs (.tmp 54) (.con (.int .i64 7))))⟩
  (.op ⟨(some 56), none, (.p (.cvi .u64 (.tmp 55)))⟩
  (.op ⟨(some 57), none, (.p (.bin .shl (.tmp 56) (.con (.int .u64 56))))⟩
  (.op ⟨(some 58), none, (.p (.bin .or (.tmp 53) (.tmp 57)))⟩
  (.op ⟨(some 2), none, (.p (.val (.tmp 58)))⟩
  .done))))))))))))))))))))))))))))))))))))))))
 .ret)))⟩
theorem i181_is : compFunc Tryz.prog ⟨[], [], []⟩ [] 181 = some i181 := by kernel_rfl

end Go.Proofs.Tryzv
