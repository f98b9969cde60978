import Derived.Test.YtbmnhnohahacaaaDoorVsT
import Derived.Test.YtbmnhnohahacaaaDoorProg
import Derived.KernelRfl
namespace Go.Proofs.Trydv
open Go.VS

/-- gosem.cut.init -/
def i2 : IFn := ⟨0, 1, [],
 (.ops [] (.op ⟨(some 0), none, (.call 1 [])⟩
  .done))⟩
theorem i2_is : compFunc Tryd.prog ⟨[], [], []⟩ [] 2 = some i2 := by kernel_rfl

/-- baton/batonlaw23.FenceKept -/
def i3 : IFn := ⟨1, 107, [.tmp 2],
 (.seq (.ops [] (.op ⟨(some 2), none, (.p (.val (.con (.bool false))))⟩
  .done))
 (.seq (.seq (.ops [] (.op ⟨(some 12), none, (.p (.val (.tmp 0)))⟩
  (.op ⟨(some 13), none, (.call 5 [(.tmp 12)])⟩
  (.op ⟨(some 14), none, (.p (.val (.tmp 13)))⟩
  (.op ⟨(some 15), (some (14, false)), (.call 6 [])⟩
  (.op ⟨(some 16), (some (14, false)), (.p (.un .not (.tmp 15)))⟩
  (.op ⟨(some 17), none, (.p (.pick (.tmp 14) (.con (.bool true)) (.tmp 16)))⟩
  .done)))))))
 (.cond (.tmp 17)
 (.seq (.ops [] (.op ⟨(some 18), none, (.call 6 [])⟩
  (.op ⟨(some 2), none, (.p (.val (.tmp 18)))⟩
  .done)))
 .ret)
 .skip))
 (.seq (.ops [] (.op ⟨(some 19), none, (.call 7 [])⟩
  (.op ⟨(some 20), none, (.call 7 [])⟩
  (.op ⟨(some 3), none, (.p (.val (.tmp 19)))⟩
  (.op ⟨(some 4), none, (.p (.val (.tmp 20)))⟩
  .done)))))
 (.seq (.seq (.ops [] (.op ⟨(some 5), none, (.p (.val (.con (.int .i64 0))))⟩
  .done))
 (.block 0 (.loop (.seq (.seq (.ops [] (.op ⟨(some 21), none, (.p (.val (.tmp 5)))⟩
  (.op ⟨(some 22), none, (.p (.val (.tmp 0)))⟩
  (.op ⟨(some 23), none, (.p (.lenl (.tmp 22)))⟩
  (.op ⟨(some 24), none, (.p (.bin .lss (.tmp 21) (.tmp 23)))⟩
  .done)))))
 (.cond (.tmp 24)
 .skip
 (.exit 0)))
 (.seq (.block 1 (.seq (.ops [] (.op ⟨(some 28), none, (.p (.val (.tmp 3)))⟩
  (.op ⟨(some 29), none, (.p (.val (.tmp 0)))⟩
  (.op ⟨(some 30), none, (.p (.val (.tmp 5)))⟩
  (.op ⟨(some 31), none, (.p (.iaddr 4 (.tmp 29) (.tmp 30)))⟩
  (.op ⟨(some 32), none, (.p (.loadi true 4 (.tmp 31)))⟩
  (.op ⟨(some 33), none, (.call 8 [(.tmp 28), (.tmp 32)])⟩
  (.op ⟨(some 27), none, (.p (.val (.tmp 33)))⟩
  (.op ⟨(some 34), none, (.p (.ext 0 (.tmp 27)))⟩
  (.op ⟨(some 35), none, (.p (.ext 1 (.tmp 27)))⟩
  (.op ⟨(some 6), none, (.alloc [(.str []), (.str []), (.int .i64 0), (.slice true 2 [] .full), (.int .i64 0), (.bool false)])⟩
  (.op ⟨(some 6), none, (.storef 6 6 (.tmp 34))⟩
  (.op ⟨(some 7), none, (.p (.val (.tmp 35)))⟩
  .done)))))))))))))
 (.seq (.seq (.ops [] (.op ⟨(some 36), none, (.p (.val (.tmp 7)))⟩
  (.op ⟨(some 37), none, (.p (.bin .neq (.tmp 36) (.con (.int .i64 0))))⟩
  .done)))
 (.cond (.tmp 37)
 (.seq (.seq (.ops [] (.op ⟨(some 38), none, (.p (.faddr 4 (.tmp 6)))⟩
  (.op ⟨(some 39), none, (.p (.loadi false 1 (.tmp 38)))⟩
  (.op ⟨(some 40), none, (.p (.bin .neq (.tmp 39) (.con (.int .i64 0))))⟩
  (.op ⟨(some 41), none, (.p (.val (.tmp 40)))⟩
  (.op ⟨(some 42), (some (41, false)), (.p (.faddr 5 (.tmp 6)))⟩
  (.op ⟨(some 43), (some (41, false)), (.p (.loadi false 1 (.tmp 42)))⟩
  (.op ⟨(some 44), none, (.p (.pick (.tmp 41) (.con (.bool true)) (.tmp 43)))⟩
  (.op ⟨(some 45), none, (.p (.val (.tmp 44)))⟩
  (.op ⟨(some 46), (some (45, false)), (.p (.faddr 0 (.tmp 6)))⟩
  (.op ⟨(some 47), (some (45, false)), (.p (.faddr 3 (.tmp 46)))⟩
  (.op ⟨(some 48), (some (45, false)), (.p (.loadi false 1 (.tmp 47)))⟩
  (.op ⟨(some 49), (some (45, false)), (.p (.lenl (.tmp 48)))⟩
  (.op ⟨(some 50), (some (45, false)), (.p (.bin .gtr (.tmp 49) (.con (.int .i64 0))))⟩
  (.op ⟨(some 51), none, (.p (.pick (.tmp 45) (.con (.bool true)) (.tmp 50)))⟩
  .done)))))))))))))))
 (.cond (.tmp 51)
 (.seq (.ops [] (.op ⟨(some 2), none, (.p (.val (.con (.bool false))))⟩
  .done))
 .ret)
 .skip))
 (.exit 1))
 .skip))
 (.seq (.ops [] (.op ⟨(some 53), none, (.p (.val (.tmp 4)))⟩
  (.op ⟨(some 54), none, (.p (.faddr 0 (.tmp 6)))⟩
  (.op ⟨(some 55), none, (.p (.loadi true 4 (.tmp 54)))⟩
  (.op ⟨(some 56), none, (.call 8 [(.tmp 53), (.tmp 55)])⟩
  (.op ⟨(some 52), none, (.p (.val (.tmp 56)))⟩
  (.op ⟨(some 57), none, (.p (.ext 0 (.tmp 52)))⟩
  (.op ⟨(some 58), none, (.p (.ext 1 (.tmp 52)))⟩
  (.op ⟨(some 8), none, (.alloc [(.str []), (.str []), (.int .i64 0), (.slice true 2 [] .full), (.int .i64 0), (.bool false)])⟩
  (.op ⟨(some 8), none, (.storef 8 6 (.tmp 57))⟩
  (.op ⟨(some 9), none, (.p (.val (.tmp 58)))⟩
  .done)))))))))))
 (.seq (.ops [] (.op ⟨(some 59), none, (.p (.val (.tmp 9)))⟩
  (.op ⟨(some 60), none, (.p (.bin .neq (.tmp 59) (.con (.int .i64 0))))⟩
  (.op ⟨(some 61), none, (.p (.val (.tmp 60)))⟩
  (.op ⟨(some 62), (some (61, false)), (.p (.faddr 4 (.tmp 8)))⟩
  (.op ⟨(some 63), (some (61, false)), (.p (.loadi false 1 (.tmp 62)))⟩
  (.op ⟨(some 64), (some (61, false)), (.p (.bin .neq (.tmp 63) (.con (.int .i64 0))))⟩
  (.op ⟨(some 65), none, (.p (.pick (.tmp 61) (.con (.bool true)) (.tmp 64)))⟩
  (.op ⟨(some 66), none, (.p (.val (.tmp 65)))⟩
  (.op ⟨(some 67), (some (66, false)), (.p (.faddr 5 (.tmp 8)))⟩
  (.op ⟨(some 68), (some (66, false)), (.p (.loadi false 1 (.tmp 67)))⟩
  (.op ⟨(some 69), (some (66, false)), (.p (.faddr 5 (.tmp 6)))⟩
  (.op ⟨(some 70), (some (66, false)), (.p (.loadi false 1 (.tmp 69)))⟩
  (.op ⟨(some 71), (some (66, false)), (.p (.eqd (.one .b) true (.tmp 68) (.tmp 70)))⟩
  (.op ⟨(some 72), none, (.p (.pick (.tmp 66) (.con (.bool true)) (.tmp 71)))⟩
  (.op ⟨(some 73), none, (.p (.val (.tmp 72)))⟩
  (.op ⟨(some 74), (some (73, false)), (.p (.faddr 0 (.tmp 8)))⟩
  (.op ⟨(some 75), (some (73, false)), (.p (.loadi true 4 (.tmp 74)))⟩
  (.op ⟨(some 76), (some (73, false)), (.p (.faddr 0 (.tmp 6)))⟩
  (.op ⟨(some 77), (some (73, false)), (.p (.loadi true 4 (.tmp 76)))⟩
  (.op ⟨(some 78), (some (73, false)), (.call 9 [(.tmp 75), (.tmp 77)])⟩
  (.op ⟨(some 79), (some (73, false)), (.p (.un .not (.tmp 78)))⟩
  (.op ⟨(some 80), none, (.p (.pick (.tmp 73) (.con (.bool true)) (.tmp 79)))⟩
  (.op ⟨(some 81), none, (.p (.val (.tmp 80)))⟩
  (.op ⟨(some 82), (some (81, false)), (.p (.val (.tmp 3)))⟩
  (.op ⟨(some 83), (some (81, false)), (.p (.val (.tmp 4)))⟩
  (.op ⟨(some 84), (some (81, false)), (.call 10 [(.tmp 82), (.tmp 83)])⟩
  (.op ⟨(some 85), (some (81, false)), (.p (.un .not (.tmp 84)))⟩
  (.op ⟨(some 86), none, (.p (.pick (.tmp 81) (.con (.bool true)) (.tmp 85)))⟩
  .done)))))))))))))))))))))))))))))
 (.cond (.tmp 86)
 (.seq (.ops [] (.op ⟨(some 2), none, (.p (.val (.con (.bool false))))⟩
  .done))
 .ret)
 .skip))))))
 (.ops [] (.op ⟨(some 25), none, (.p (.val (.tmp 5)))⟩
  (.op ⟨(some 26), none, (.p (.bin .add (.tmp 25) (.con (.int .i64 1))))⟩
  (.op ⟨(some 5), none, (.p (.val (.tmp 26)))⟩
  .done)))))))))
 (.seq (.ops [] (.op ⟨(some 88), none, (.p (.val (.tmp 3)))⟩
  (.op ⟨(some 89), none, (.call 12 [(.tmp 88)])⟩
  (.op ⟨(some 90), none, (.p (.val (.tmp 3)))⟩
  (.op ⟨(some 91), none, (.call 13 [(.tmp 90)])⟩
  (.op ⟨(some 92), none, (.call 11 [(.tmp 89), (.tmp 91)])⟩
  (.op ⟨(some 87), none, (.p (.val (.tmp 92)))⟩
  (.op ⟨(some 93), none, (.p (.ext 0 (.tmp 87)))⟩
  (.op ⟨(some 94), none, (.p (.ext 1 (.tmp 87)))⟩
  (.op ⟨(some 10), none, (.p (.val (.tmp 93)))⟩
  (.op ⟨(some 11), none, (.p (.val (.tmp 94)))⟩
  .done)))))))))))
 (.seq (.ops [] (.op ⟨(some 95), none, (.p (.val (.tmp 11)))⟩
  (.op ⟨(some 96), none, (.p (.bin .eql (.tmp 95) (.con (.int .i64 0))))⟩
  (.op ⟨(some 97), none, (.p (.val (.tmp 96)))⟩
  (.op ⟨(some 98), (some (97, true)), (.p (.val (.tmp 10)))⟩
  (.op ⟨(some 99), (some (97, true)), (.p (.val (.tmp 3)))⟩
  (.op ⟨(some 100), (some (97, true)), (.call 10 [(.tmp 98), (.tmp 99)])⟩
  (.op ⟨(some 101), none, (.p (.pick (.tmp 97) (.tmp 100) (.con (.bool false))))⟩
  (.op ⟨(some 102), none, (.p (.val (.tmp 101)))⟩
  (.op ⟨(some 103), (some (102, true)), (.p (.val (.tmp 3)))⟩
  (.op ⟨(some 104), (some (102, true)), (.p (.val (.tmp 10)))⟩
  (.op ⟨(some 105), (some (102, true)), (.call 10 [(.tmp 103), (.tmp 104)])⟩
  (.op ⟨(some 106), none, (.p (.pick (.tmp 102) (.tmp 105) (.con (.bool false))))⟩
  (.op ⟨(some 2), none, (.p (.val (.tmp 106)))⟩
  .done))))))))))))))
 .ret))))))⟩
theorem i3_is : compFunc Tryd.prog ⟨[6, 8], [], [6, 8, 31, 38, 42, 46, 54, 62, 67, 69, 74, 76, 47]⟩ [] 3 = some i3 := by kernel_rfl

/-- baton/batonlaw23.FenceNames -/
def i4 : IFn := ⟨0, 228, [.tmp 0],
 (.seq (.ops [] (.op ⟨(some 0), none, (.p (.val (.con (.bool false))))⟩
  .done))
 (.seq (.seq (.ops [] (.op ⟨(some 19), none, (.call 6 [])⟩
  (.op ⟨(some 20), none, (.p (.un .not (.tmp 19)))⟩
  .done)))
 (.cond (.tmp 20)
 (.seq (.ops [] (.op ⟨(some 0), none, (.p (.val (.con (.bool false))))⟩
  .done))
 .ret)
 .skip))
 (.seq (.ops [] (.op ⟨(some 21), none, (.p (.build [(.int .i64 0), (.int .u64 0)] [(0, 1, (.con (.int .i64 1)))]))⟩
  (.op ⟨(some 22), none, (.p (.mks 2 [(.tmp 21)]))⟩
  (.op ⟨(some 1), none, (.p (.val (.tmp 22)))⟩
  .done))))
 (.seq (.ops [] (.op ⟨(some 23), none, (.p (.build [(.str []), (.str [])] [(0, 1, (.con (.str [97]))), (1, 1, (.con (.str [98])))]))⟩
  (.op ⟨(some 24), none, (.p (.mks 2 [(.tmp 23)]))⟩
  (.op ⟨(some 25), none, (.p (.build [(.str []), (.str [])] [(0, 1, (.con (.str [98]))), (1, 1, (.con (.str [98])))]))⟩
  (.op ⟨(some 26), none, (.p (.mks 2 [(.tmp 25)]))⟩
  (.op ⟨(some 2), none, (.p (.val (.tmp 24)))⟩
  (.op ⟨(some 3), none, (.p (.val (.tmp 26)))⟩
  .done)))))))
 (.seq (.seq (.ops [] (.op ⟨(some 27), none, (.p (.build [(.str []), (.str []), (.int .i64 0)] [(0, 1, (.con (.str [116]))), (1, 1, (.con (.str [120])))]))⟩
  (.op ⟨(some 28), none, (.p (.mks 3 [(.tmp 27)]))⟩
  (.op ⟨(some 29), none, (.p (.build [(.slice true 3 [] .full), (.slice true 3 [] .full)] [(0, 1, (.tmp 28))]))⟩
  (.op ⟨(some 30), none, (.p (.build [(.str []), (.str []), (.int .i64 0)] [(0, 1, (.con (.str [116]))), (1, 1, (.con (.str [120]))), (2, 1, (.con (.int .i64 1099511627777)))]))⟩
  (.op ⟨(some 31), none, (.p (.mks 3 [(.tmp 30)]))⟩
  (.op ⟨(some 32), none, (.p (.build [(.slice true 3 [] .full), (.slice true 3 [] .full)] [(0, 1, (.tmp 31))]))⟩
  (.op ⟨(some 33), none, (.p (.build [(.str []), (.str []), (.int .i64 0)] [(0, 1, (.con (.str [116]))), (2, 1, (.con (.int .i64 1)))]))⟩
  (.op ⟨(some 34), none, (.p (.mks 3 [(.tmp 33)]))⟩
  (.op ⟨(some 35), none, (.p (.build [(.slice true 3 [] .full), (.slice true 3 [] .full)] [(0, 1, (.tmp 34))]))⟩
  (.op ⟨(some 36), none, (.p (.build [(.str []), (.str []), (.int .i64 0)] [(1, 1, (.con (.str [120]))), (2, 1, (.con (.int .i64 1)))]))⟩
  (.op ⟨(some 37), none, (.p (.mks 3 [(.tmp 36)]))⟩
  (.op ⟨(some 38), none, (.p (.build [(.slice true 3 [] .full), (.slice true 3 [] .full)] [(0, 1, (.tmp 37))]))⟩
  (.op ⟨(some 39), none, (.p (.build [(.str []), (.str []), (.int .i64 0)] [(0, 1, (.con (.str [116]))), (1, 1, (.con (.str [120]))), (2, 1, (.con (.int .i64 1)))]))⟩
  (.op ⟨(some 40), none, (.p (.build [(.str []), (.str []), (.int .i64 0)] [(0, 1, (.con (.str [116]))), (1, 1, (.con (.str [120]))), (2, 1, (.con (.int .i64 2)))]))⟩
  (.op ⟨(some 41), none, (.p (.mks 3 [(.tmp 39), (.tmp 40)]))⟩
  (.op ⟨(some 42), none, (.p (.build [(.slice true 3 [] .full), (.slice true 3 [] .full)] [(0, 1, (.tmp 41))]))⟩
  (.op ⟨(some 43), none, (.p (.build [(.str []), (.str []), (.int .i64 0)] [(0, 1, (.con (.str [117]))), (1, 1, (.con (.str [120]))), (2, 1, (.con (.int .i64 1)))]))⟩
  (.op ⟨(some 44), none, (.p (.build [(.str []), (.str []), (.int .i64 0)] [(0, 1, (.con (.str [116]))), (1, 1, (.con (.str [121]))), (2, 1, (.con (.int .i64 2)))]))⟩
  (.op ⟨(some 45), none, (.p (.mks 3 [(.tmp 43), (.tmp 44)]))⟩
  (.op ⟨(some 46), none, (.p (.build [(.slice true 3 [] .full), (.slice true 3 [] .full)] [(0, 1, (.tmp 45))]))⟩
  (.op ⟨(some 47), none, (.p (.val (.tmp 2)))⟩
  (.op ⟨(some 48), none, (.p (.build [(.slice true 2 [] .full), (.slice true 2 [] .full)] [(0, 1, (.tmp 47))]))⟩
  (.op ⟨(some 49), none, (.p (.build [(.str []), (.slice true 2 [] .full), (.slice true 2 [] .full)] [(0, 1, (.con (.str [116]))), (1, 2, (.tmp 48))]))⟩
  (.op ⟨(some 50), none, (.p (.mks 3 [(.tmp 49)]))⟩
  (.op ⟨(some 51), none, (.p (.build [(.slice true 3 [] .full), (.slice true 3 [] .full)] [(1, 1, (.tmp 50))]))⟩
  (.op ⟨(some 52), none, (.p (.val (.tmp 1)))⟩
  (.op ⟨(some 53), none, (.p (.build [(.slice true 2 [] .full), (.slice true 2 [] .full)] [(1, 1, (.tmp 52))]))⟩
  (.op ⟨(some 54), none, (.p (.build [(.str []), (.slice true 2 [] .full), (.slice true 2 [] .full)] [(0, 1, (.con (.str [116]))), (1, 2, (.tmp 53))]))⟩
  (.op ⟨(some 55), none, (.p (.mks 3 [(.tmp 54)]))⟩
  (.op ⟨(some 56), none, (.p (.build [(.slice true 3 [] .full), (.slice true 3 [] .full)] [(1, 1, (.tmp 55))]))⟩
  (.op ⟨(some 57), none, (.p (.val (.tmp 2)))⟩
  (.op ⟨(some 58), none, (.p (.val (.tmp 1)))⟩
  (.op ⟨(some 59), none, (.p (.build [(.slice true 2 [] .full), (.slice true 2 [] .full)] [(0, 1, (.tmp 57)), (1, 1, (.tmp 58))]))⟩
  (.op ⟨(some 60), none, (.p (.build [(.str []), (.slice true 2 [] .full), (.slice true 2 [] .full)] [(1, 2, (.tmp 59))]))⟩
  (.op ⟨(some 61), none, (.p (.mks 3 [(.tmp 60)]))⟩
  (.op ⟨(some 62), none, (.p (.build [(.slice true 3 [] .full), (.slice true 3 [] .full)] [(1, 1, (.tmp 61))]))⟩
  (.op ⟨(some 63), none, (.p (.val (.tmp 2)))⟩
  (.op ⟨(some 64), none, (.p (.build [(.int .i64 0), (.int .u64 0)] [(0, 1, (.con (.int .i64 1)))]))⟩
  (.op ⟨(some 65), none, (.p (.build [(.int .i64 0), (.int .u64 0)] [(0, 1, (.con (.int .i64 1)))]))⟩
  (.op ⟨(some 66), none, (.p (.mks 2 [(.tmp 64), (.tmp 65)]))⟩
  (.op ⟨(some 67), none, (.p (.build [(.slice true 2 [] .full), (.slice true 2 [] .full)] [(0, 1, (.tmp 63)), (1, 1, (.tmp 66))]))⟩
  (.op ⟨(some 68), none, (.p (.build [(.str []), (.slice true 2 [] .full), (.slice true 2 [] .full)] [(0, 1, (.con (.str [116]))), (1, 2, (.tmp 67))]))⟩
  (.op ⟨(some 69), none, (.p (.mks 3 [(.tmp 68)]))⟩
  (.op ⟨(some 70), none, (.p (.build [(.slice true 3 [] .full), (.slice true 3 [] .full)] [(1, 1, (.tmp 69))]))⟩
  (.op ⟨(some 71), none, (.p (.val (.tmp 3)))⟩
  (.op ⟨(some 72), none, (.p (.val (.tmp 1)))⟩
  (.op ⟨(some 73), none, (.p (.build [(.slice true 2 [] .full), (.slice true 2 [] .full)] [(0, 1, (.tmp 71)), (1, 1, (.tmp 72))]))⟩
  (.op ⟨(some 74), none, (.p (.build [(.str []), (.slice true 2 [] .full), (.slice true 2 [] .full)] [(0, 1, (.con (.str [116]))), (1, 2, (.tmp 73))]))⟩
  (.op ⟨(some 75), none, (.p (.val (.tmp 2)))⟩
  (.op ⟨(some 76), none, (.p (.val (.tmp 1)))⟩
  (.op ⟨(some 77), none, (.p (.build [(.slice true 2 [] .full), (.slice true 2 [] .full)] [(0, 1, (.tmp 75)), (1, 1, (.tmp 76))]))⟩
  (.op ⟨(some 78), none, (.p (.build [(.str []), (.slice true 2 [] .full), (.slice true 2 [] .full)] [(0, 1, (.con (.str [116]))), (1, 2, (.tmp 77))]))⟩
  (.op ⟨(some 79), none, (.p (.mks 3 [(.tmp 74), (.tmp 78)]))⟩
  (.op ⟨(some 80), none, (.p (.build [(.slice true 3 [] .full), (.slice true 3 [] .full)] [(1, 1, (.tmp 79))]))⟩
  (.op ⟨(some 81), none, (.p (.val (.tmp 2)))⟩
  (.op ⟨(some 82), none, (.p (.val (.tmp 1)))⟩
  (.op ⟨(some 83), none, (.p (.build [(.slice true 2 [] .full), (.slice true 2 [] .full)] [(0, 1, (.tmp 81)), (1, 1, (.tmp 82))]))⟩
  (.op ⟨(some 84), none, (.p (.build [(.str []), (.slice true 2 [] .full), (.slice true 2 [] .full)] [(0, 1, (.con (.str [116]))), (1, 2, (.tmp 83))]))⟩
  (.op ⟨(some 85), none, (.p (.val (.tmp 2)))⟩
  (.op ⟨(some 86), none, (.p (.val (.tmp 1)))⟩
  (.op ⟨(some 87), none, (.p (.build [(.slice true 2 [] .full), (.slice true 2 [] .full)] [(0, 1, (.tmp 85)), (1, 1, (.tmp 86))]))⟩
  (.op ⟨(some 88), none, (.p (.build [(.str []), (.slice true 2 [] .full), (.slice true 2 [] .full)] [(0, 1, (.con (.str [116]))), (1, 2, (.tmp 87))]))⟩
  (.op ⟨(some 89), none, (.p (.mks 3 [(.tmp 84), (.tmp 88)]))⟩
  (.op ⟨(some 90), none, (.p (.build [(.slice true 3 [] .full), (.slice true 3 [] .full)] [(1, 1, (.tmp 89))]))⟩
  (.op ⟨(some 91), none, (.p (.mks 2 [(.tmp 29), (.tmp 32), (.tmp 35), (.tmp 38), (.tmp 42), (.tmp 46), (.tmp 51), (.tmp 56), (.tmp 62), (.tmp 70), (.tmp 80), (.tmp 90)]))⟩
  (.op ⟨(some 92), none, (.p (.lenl (.tmp 91)))⟩
  (.op ⟨(some 93), none, (.p (.val (.con (.int .i64 0))))⟩
  .done))))))))))))))))))))))))))))))))))))))))))))))))))))))))))))))))))))
 (.block 0 (.loop (.seq (.ops [] (.op ⟨(some 94), none, (.p (.bin .lss (.tmp 93) (.tmp 92)))⟩
  .done))
 (.seq (.cond (.tmp 94)
 .skip
 (.exit 0))
 (.seq (.block 1 (.seq (.ops [] (.op ⟨(some 95), none, (.p (.iaddr 2 (.tmp 91) (.tmp 93)))⟩
  (.op ⟨(some 96), none, (.p (.loadi true 2 (.tmp 95)))⟩
  (.op ⟨(some 5), none, (.alloc [(.slice true 3 [] .full), (.slice true 3 [] .full)])⟩
  (.op ⟨(some 5), none, (.storef 5 2 (.tmp 96))⟩
  .done)))))
 (.seq (.ops [] (.op ⟨(some 98), none, (.p (.faddr 0 (.tmp 5)))⟩
  (.op ⟨(some 99), none, (.p (.loadi false 1 (.tmp 98)))⟩
  (.op ⟨(some 100), none, (.p (.faddr 1 (.tmp 5)))⟩
  (.op ⟨(some 101), none, (.p (.loadi false 1 (.tmp 100)))⟩
  (.op ⟨(some 102), none, (.call 11 [(.tmp 99), (.tmp 101)])⟩
  (.op ⟨(some 97), none, (.p (.val (.tmp 102)))⟩
  (.op ⟨(some 103), none, (.p (.ext 0 (.tmp 97)))⟩
  (.op ⟨(some 104), none, (.p (.ext 1 (.tmp 97)))⟩
  (.op ⟨(some 6), none, (.p (.val (.tmp 103)))⟩
  (.op ⟨(some 7), none, (.p (.val (.tmp 104)))⟩
  .done)))))))))))
 (.seq (.ops [] (.op ⟨(some 105), none, (.p (.val (.tmp 6)))⟩
  (.op ⟨(some 106), none, (.p (.eqn .p true (.tmp 105) (.con .nilptr)))⟩
  (.op ⟨(some 107), none, (.p (.val (.tmp 106)))⟩
  (.op ⟨(some 108), (some (107, false)), (.p (.val (.tmp 7)))⟩
  (.op ⟨(some 109), (some (107, false)), (.p (.bin .neq (.tmp 108) (.con (.int .i64 4))))⟩
  (.op ⟨(some 110), none, (.p (.pick (.tmp 107) (.con (.bool true)) (.tmp 109)))⟩
  .done)))))))
 (.cond (.tmp 110)
 (.seq (.ops [] (.op ⟨(some 0), none, (.p (.val (.con (.bool false))))⟩
  .done))
 .ret)
 .skip)))))
 (.ops [] (.op ⟨(some 111), none, (.p (.bin .add (.tmp 93) (.con (.int .i64 1))))⟩
  (.op ⟨(some 93), none, (.p (.val (.tmp 111)))⟩
  .done)))))))))
 (.seq (.ops [] (.op ⟨(some 113), none, (.p (.build [(.str []), (.str []), (.int .i64 0)] [(0, 1, (.con (.str [116]))), (1, 1, (.con (.str [120]))), (2, 1, (.con (.int .i64 3)))]))⟩
  (.op ⟨(some 114), none, (.p (.build [(.str []), (.str []), (.int .i64 0)] [(0, 1, (.con (.str [116]))), (1, 1, (.con (.str [121]))), (2, 1, (.con (.int .i64 1)))]))⟩
  (.op ⟨(some 115), none, (.p (.build [(.str []), (.str []), (.int .i64 0)] [(0, 1, (.con (.str [117]))), (1, 1, (.con (.str [97]))), (2, 1, (.con (.int .i64 1099511627776)))]))⟩
  (.op ⟨(some 116), none, (.p (.mks 3 [(.tmp 113), (.tmp 114), (.tmp 115)]))⟩
  (.op ⟨(some 117), none, (.p (.val (.tmp 2)))⟩
  (.op ⟨(some 118), none, (.p (.val (.tmp 1)))⟩
  (.op ⟨(some 119), none, (.p (.build [(.slice true 2 [] .full), (.slice true 2 [] .full)] [(0, 1, (.tmp 117)), (1, 1, (.tmp 118))]))⟩
  (.op ⟨(some 120), none, (.p (.build [(.str []), (.slice true 2 [] .full), (.slice true 2 [] .full)] [(0, 1, (.con (.str [116]))), (1, 2, (.tmp 119))]))⟩
  (.op ⟨(some 121), none, (.p (.val (.tmp 3)))⟩
  (.op ⟨(some 122), none, (.p (.val (.tmp 1)))⟩
  (.op ⟨(some 123), none, (.p (.build [(.slice true 2 [] .full), (.slice true 2 [] .full)] [(0, 1, (.tmp 121)), (1, 1, (.tmp 122))]))⟩
  (.op ⟨(some 124), none, (.p (.build [(.str []), (.slice true 2 [] .full), (.slice true 2 [] .full)] [(0, 1, (.con (.str [116]))), (1, 2, (.tmp 123))]))⟩
  (.op ⟨(some 125), none, (.p (.val (.tmp 2)))⟩
  (.op ⟨(some 126), none, (.p (.val (.tmp 1)))⟩
  (.op ⟨(some 127), none, (.p (.build [(.slice true 2 [] .full), (.slice true 2 [] .full)] [(0, 1, (.tmp 125)), (1, 1, (.tmp 126))]))⟩
  (.op ⟨(some 128), none, (.p (.build [(.str []), (.slice true 2 [] .full), (.slice true 2 [] .full)] [(0, 1, (.con (.str [117]))), (1, 2, (.tmp 127))]))⟩
  (.op ⟨(some 129), none, (.p (.mks 3 [(.tmp 120), (.tmp 124), (.tmp 128)]))⟩
  (.op ⟨(some 130), none, (.call 11 [(.tmp 116), (.tmp 129)])⟩
  (.op ⟨(some 112), none, (.p (.val (.tmp 130)))⟩
  (.op ⟨(some 131), none, (.p (.ext 0 (.tmp 112)))⟩
  (.op ⟨(some 132), none, (.p (.ext 1 (.tmp 112)))⟩
  (.op ⟨(some 8), none, (.p (.val (.tmp 131)))⟩
  (.op ⟨(some 9), none, (.p (.val (.tmp 132)))⟩
  .done))))))))))))))))))))))))
 (.seq (.ops [] (.op ⟨(some 134), none, (.p (.val (.tmp 8)))⟩
  (.op ⟨(some 135), none, (.p (.build [(.str []), (.str []), (.int .i64 0), (.slice true 2 [] .full)] [(0, 1, (.con (.str [116]))), (1, 1, (.con (.str [120]))), (2, 1, (.con (.int .i64 2)))]))⟩
  (.op ⟨(some 136), none, (.call 8 [(.tmp 134), (.tmp 135)])⟩
  (.op ⟨(some 133), none, (.p (.val (.tmp 136)))⟩
  (.op ⟨(some 137), none, (.p (.ext 0 (.tmp 133)))⟩
  (.op ⟨(some 138), none, (.p (.ext 1 (.tmp 133)))⟩
  (.op ⟨(some 10), none, (.alloc [(.str []), (.str []), (.int .i64 0), (.slice true 2 [] .full), (.int .i64 0), (.bool false)])⟩
  (.op ⟨(some 10), none, (.storef 10 6 (.tmp 137))⟩
  (.op ⟨(some 11), none, (.p (.val (.tmp 138)))⟩
  .done))))))))))
 (.seq (.ops [] (.op ⟨(some 140), none, (.p (.val (.tmp 8)))⟩
  (.op ⟨(some 141), none, (.p (.build [(.str []), (.str []), (.int .i64 0), (.slice true 2 [] .full)] [(0, 1, (.con (.str [116]))), (1, 1, (.con (.str [120])))]))⟩
  (.op ⟨(some 142), none, (.call 8 [(.tmp 140), (.tmp 141)])⟩
  (.op ⟨(some 139), none, (.p (.val (.tmp 142)))⟩
  (.op ⟨(some 143), none, (.p (.ext 0 (.tmp 139)))⟩
  (.op ⟨(some 144), none, (.p (.ext 1 (.tmp 139)))⟩
  (.op ⟨(some 12), none, (.alloc [(.str []), (.str []), (.int .i64 0), (.slice true 2 [] .full), (.int .i64 0), (.bool false)])⟩
  (.op ⟨(some 12), none, (.storef 12 6 (.tmp 143))⟩
  (.op ⟨(some 13), none, (.p (.val (.tmp 144)))⟩
  .done))))))))))
 (.seq (.ops [] (.op ⟨(some 146), none, (.p (.val (.tmp 8)))⟩
  (.op ⟨(some 147), none, (.p (.build [(.str []), (.str []), (.int .i64 0), (.slice true 2 [] .full)] [(0, 1, (.con (.str [116]))), (2, 1, (.con (.int .i64 1)))]))⟩
  (.op ⟨(some 148), none, (.call 8 [(.tmp 146), (.tmp 147)])⟩
  (.op ⟨(some 145), none, (.p (.val (.tmp 148)))⟩
  (.op ⟨(some 149), none, (.p (.ext 0 (.tmp 145)))⟩
  (.op ⟨(some 150), none, (.p (.ext 1 (.tmp 145)))⟩
  (.op ⟨(some 14), none, (.alloc [(.str []), (.str []), (.int .i64 0), (.slice true 2 [] .full), (.int .i64 0), (.bool false)])⟩
  (.op ⟨(some 14), none, (.storef 14 6 (.tmp 149))⟩
  (.op ⟨(some 15), none, (.p (.val (.tmp 150)))⟩
  .done))))))))))
 (.seq (.ops [] (.op ⟨(some 16), none, (.p (.val (.con .nilptr)))⟩
  .done))
 (.seq (.ops [] (.op ⟨(some 152), none, (.p (.val (.tmp 16)))⟩
  (.op ⟨(some 153), none, (.p (.build [(.str []), (.str []), (.int .i64 0), (.slice true 2 [] .full)] []))⟩
  (.op ⟨(some 154), none, (.call 8 [(.tmp 152), (.tmp 153)])⟩
  (.op ⟨(some 151), none, (.p (.val (.tmp 154)))⟩
  (.op ⟨(some 155), none, (.p (.ext 0 (.tmp 151)))⟩
  (.op ⟨(some 156), none, (.p (.ext 1 (.tmp 151)))⟩
  (.op ⟨(some 17), none, (.alloc [(.str []), (.str []), (.int .i64 0), (.slice true 2 [] .full), (.int .i64 0), (.bool false)])⟩
  (.op ⟨(some 17), none, (.storef 17 6 (.tmp 155))⟩
  (.op ⟨(some 18), none, (.p (.val (.tmp 156)))⟩
  .done))))))))))
 (.seq (.ops [] (.op ⟨(some 157), none, (.p (.val (.tmp 9)))⟩
  (.op ⟨(some 158), none, (.p (.bin .eql (.tmp 157) (.con (.int .i64 0))))⟩
  (.op ⟨(some 159), none, (.p (.val (.tmp 158)))⟩
  (.op ⟨(some 160), (some (159, true)), (.p (.val (.tmp 11)))⟩
  (.op ⟨(some 161), (some (159, true)), (.p (.bin .eql (.tmp 160) (.con (.int .i64 61))))⟩
  (.op ⟨(some 162), none, (.p (.pick (.tmp 159) (.tmp 161) (.con (.bool false))))⟩
  (.op ⟨(some 163), none, (.p (.val (.tmp 162)))⟩
  (.op ⟨(some 164), (some (163, true)), (.p (.val (.tmp 13)))⟩
  (.op ⟨(some 165), (some (163, true)), (.p (.bin .eql (.tmp 164) (.con (.int .i64 4))))⟩
  (.op ⟨(some 166), none, (.p (.pick (.tmp 163) (.tmp 165) (.con (.bool false))))⟩
  (.op ⟨(some 167), none, (.p (.val (.tmp 166)))⟩
  (.op ⟨(some 168), (some (167, true)), (.p (.val (.tmp 15)))⟩
  (.op ⟨(some 169), (some (167, true)), (.p (.bin .eql (.tmp 168) (.con (.int .i64 4))))⟩
  (.op ⟨(some 170), none, (.p (.pick (.tmp 167) (.tmp 169) (.con (.bool false))))⟩
  (.op ⟨(some 171), none, (.p (.val (.tmp 170)))⟩
  (.op ⟨(some 172), (some (171, true)), (.p (.val (.tmp 8)))⟩
  (.op ⟨(some 173), (some (171, true)), (.call 14 [(.tmp 172), (.con (.str [117])), (.con (.str [97]))])⟩
  (.op ⟨(some 174), (some (171, true)), (.p (.bin .eql (.tmp 173) (.con (.int .i64 1099511627776))))⟩
  (.op ⟨(some 175), none, (.p (.pick (.tmp 171) (.tmp 174) (.con (.bool false))))⟩
  (.op ⟨(some 176), none, (.p (.val (.tmp 175)))⟩
  (.op ⟨(some 177), (some (176, true)), (.p (.val (.tmp 8)))⟩
  (.op ⟨(some 178), (some (176, true)), (.call 14 [(.tmp 177), (.con (.str [116])), (.con (.str [97]))])⟩
  (.op ⟨(some 179), (some (176, true)), (.p (.bin .eql (.tmp 178) (.con (.int .i64 0))))⟩
  (.op ⟨(some 180), none, (.p (.pick (.tmp 176) (.tmp 179) (.con (.bool false))))⟩
  (.op ⟨(some 181), none, (.p (.val (.tmp 180)))⟩
  (.op ⟨(some 182), (some (181, true)), (.p (.val (.tmp 18)))⟩
  (.op ⟨(some 183), (some (181, true)), (.p (.bin .eql (.tmp 182) (.con (.int .i64 2))))⟩
  (.op ⟨(some 184), none, (.p (.pick (.tmp 181) (.tmp 183) (.con (.bool false))))⟩
  (.op ⟨(some 185), none, (.p (.val (.tmp 184)))⟩
  (.op ⟨(some 186), (some (185, true)), (.p (.val (.tmp 16)))⟩
  (.op ⟨(some 187), (some (185, true)), (.call 14 [(.tmp 186), (.con (.str [116])), (.con (.str [120]))])⟩
  (.op ⟨(some 188), (some (185, true)), (.p (.bin .eql (.tmp 187) (.con (.int .i64 0))))⟩
  (.op ⟨(some 189), none, (.p (.pick (.tmp 185) (.tmp 188) (.con (.bool false))))⟩
  (.op ⟨(some 190), none, (.p (.val (.tmp 189)))⟩
  (.op ⟨(some 191), (some (190, true)), (.p (.val (.tmp 16)))⟩
  (.op ⟨(some 192), (some (190, true)), (.call 12 [(.tmp 191)])⟩
  (.op ⟨(some 193), (some (190, true)), (.p (.lenl (.tmp 192)))⟩
  (.op ⟨(some 194), (some (190, true)), (.p (.bin .eql (.tmp 193) (.con (.int .i64 0))))⟩
  (.op ⟨(some 195), none, (.p (.pick (.tmp 190) (.tmp 194) (.con (.bool false))))⟩
  (.op ⟨(some 196), none, (.p (.val (.tmp 195)))⟩
  (.op ⟨(some 197), (some (196, true)), (.p (.val (.tmp 16)))⟩
  (.op ⟨(some 198), (some (196, true)), (.call 13 [(.tmp 197)])⟩
  (.op ⟨(some 199), (some (196, true)), (.p (.lenl (.tmp 198)))⟩
  (.op ⟨(some 200), (some (196, true)), (.p (.bin .eql (.tmp 199) (.con (.int .i64 0))))⟩
  (.op ⟨(some 201), none, (.p (.pick (.tmp 196) (.tmp 200) (.con (.bool false))))⟩
  (.op ⟨(some 202), none, (.p (.val (.tmp 201)))⟩
  (.op ⟨(some 203), (some (202, true)), (.p (.val (.tmp 16)))⟩
  (.op ⟨(some 204), (some (202, true)), (.p (.val (.tmp 2)))⟩
  (.op ⟨(some 205), (some (202, true)), (.call 15 [(.tmp 203), (.con (.str [116])), (.tmp 204)])⟩
  (.op ⟨(some 206), (some (202, true)), (.p (.lenl (.tmp 205)))⟩
  (.op ⟨(some 207), (some (202, true)), (.p (.bin .eql (.tmp 206) (.con (.int .i64 0))))⟩
  (.op ⟨(some 208), none, (.p (.pick (.tmp 202) (.tmp 207) (.con (.bool false))))⟩
  (.op ⟨(some 209), none, (.p (.val (.tmp 208)))⟩
  (.op ⟨(some 210), (some (209, true)), (.p (.val (.tmp 16)))⟩
  (.op ⟨(some 211), (some (209, true)), (.call 16 [(.tmp 210)])⟩
  (.op ⟨(some 212), (some (209, true)), (.p (.eqn .p false (.tmp 211) (.con .nilptr)))⟩
  (.op ⟨(some 213), none, (.p (.pick (.tmp 209) (.tmp 212) (.con (.bool false))))⟩
  (.op ⟨(some 214), none, (.p (.val (.tmp 213)))⟩
  (.op ⟨(some 215), (some (214, true)), (.call 10 [(.con .nilptr), (.con .nilptr)])⟩
  (.op ⟨(some 216), none, (.p (.pick (.tmp 214) (.tmp 215) (.con (.bool false))))⟩
  (.op ⟨(some 217), none, (.p (.val (.tmp 216)))⟩
  (.op ⟨(some 218), (some (217, true)), (.p (.val (.tmp 8)))⟩
  (.op ⟨(some 219), (some (217, true)), (.call 10 [(.tmp 218), (.con .nilptr)])⟩
  (.op ⟨(some 220), (some (217, true)), (.p (.un .not (.tmp 219)))⟩
  (.op ⟨(some 221), none, (.p (.pick (.tmp 217) (.tmp 220) (.con (.bool false))))⟩
  (.op ⟨(some 222), none, (.p (.val (.tmp 221)))⟩
  (.op ⟨(some 223), (some (222, true)), (.p (.val (.tmp 16)))⟩
  (.op ⟨(some 224), (some (222, true)), (.p (.val (.tmp 8)))⟩
  (.op ⟨(some 225), (some (222, true)), (.call 10 [(.tmp 223), (.tmp 224)])⟩
  (.op ⟨(some 226), (some (222, true)), (.p (.un .not (.tmp 225)))⟩
  (.op ⟨(some 227), none, (.p (.pick (.tmp 222) (.tmp 226) (.con (.bool false))))⟩
  (.op ⟨(some 0), none, (.p (.val (.tmp 227)))⟩
  .done)))))))))))))))))))))))))))))))))))))))))))))))))))))))))))))))))))))))))
 .ret))))))))))))⟩
theorem i4_is : compFunc Tryd.prog ⟨[5, 10, 12, 14, 17], [], [5, 10, 12, 14, 17, 95, 98, 100]⟩ [] 4 = some i4 := by kernel_rfl

/-- baton/batonlaw23.long -/
def i5 : IFn := ⟨1, 47, [.tmp 2],
 (.seq (.ops [] (.op ⟨(some 2), none, (.p (.val (.con (.bool false))))⟩
  .done))
 (.seq (.ops [] (.op ⟨(some 3), none, (.p (.val (.con (.int .i64 0))))⟩
  .done))
 (.seq (.seq (.ops [] (.op ⟨(some 4), none, (.p (.val (.con (.int .i64 0))))⟩
  .done))
 (.block 0 (.loop (.seq (.seq (.ops [] (.op ⟨(some 5), none, (.p (.val (.tmp 4)))⟩
  (.op ⟨(some 6), none, (.p (.val (.tmp 0)))⟩
  (.op ⟨(some 7), none, (.p (.lenl (.tmp 6)))⟩
  (.op ⟨(some 8), none, (.p (.bin .lss (.tmp 5) (.tmp 7)))⟩
  (.op ⟨(some 9), none, (.p (.val (.tmp 8)))⟩
  (.op ⟨(some 10), (some (9, true)), (.p (.val (.tmp 3)))⟩
  (.op ⟨(some 11), (some (9, true)), (.p (.bin .lss (.tmp 10) (.con (.int .i64 6000))))⟩
  (.op ⟨(some 12), none, (.p (.pick (.tmp 9) (.tmp 11) (.con (.bool false))))⟩
  .done)))))))))
 (.cond (.tmp 12)
 .skip
 (.exit 0)))
 (.seq (.block 1 (.ops [] (.op ⟨(some 15), none, (.p (.val (.tmp 3)))⟩
  (.op ⟨(some 16), none, (.p (.bin .add (.tmp 15) (.con (.int .i64 5))))⟩
  (.op ⟨(some 17), none, (.p (.val (.tmp 0)))⟩
  (.op ⟨(some 18), none, (.p (.val (.tmp 4)))⟩
  (.op ⟨(some 19), none, (.p (.iaddr 4 (.tmp 17) (.tmp 18)))⟩
  (.op ⟨(some 20), none, (.p (.faddr 0 (.tmp 19)))⟩
  (.op ⟨(some 21), none, (.p (.loadi false 1 (.tmp 20)))⟩
  (.op ⟨(some 22), none, (.p (.lens (.tmp 21)))⟩
  (.op ⟨(some 23), none, (.p (.min2 false (.con (.int .i64 6000)) (.tmp 22)))⟩
  (.op ⟨(some 24), none, (.p (.bin .add (.tmp 16) (.tmp 23)))⟩
  (.op ⟨(some 25), none, (.p (.val (.tmp 0)))⟩
  (.op ⟨(some 26), none, (.p (.val (.tmp 4)))⟩
  (.op ⟨(some 27), none, (.p (.iaddr 4 (.tmp 25) (.tmp 26)))⟩
  (.op ⟨(some 28), none, (.p (.faddr 1 (.tmp 27)))⟩
  (.op ⟨(some 29), none, (.p (.loadi false 1 (.tmp 28)))⟩
  (.op ⟨(some 30), none, (.p (.lens (.tmp 29)))⟩
  (.op ⟨(some 31), none, (.p (.min2 false (.con (.int .i64 6000)) (.tmp 30)))⟩
  (.op ⟨(some 32), none, (.p (.bin .add (.tmp 24) (.tmp 31)))⟩
  (.op ⟨(some 33), none, (.p (.val (.tmp 0)))⟩
  (.op ⟨(some 34), none, (.p (.val (.tmp 4)))⟩
  (.op ⟨(some 35), none, (.p (.iaddr 4 (.tmp 33) (.tmp 34)))⟩
  (.op ⟨(some 36), none, (.p (.faddr 3 (.tmp 35)))⟩
  (.op ⟨(some 37), none, (.p (.loadi false 1 (.tmp 36)))⟩
  (.op ⟨(some 38), none, (.call 17 [(.tmp 37)])⟩
  (.op ⟨(some 39), none, (.p (.bin .add (.tmp 32) (.tmp 38)))⟩
  (.op ⟨(some 3), none, (.p (.val (.tmp 39)))⟩
  .done))))))))))))))))))))))))))))
 (.ops [] (.op ⟨(some 13), none, (.p (.val (.tmp 4)))⟩
  (.op ⟨(some 14), none, (.p (.bin .add (.tmp 13) (.con (.int .i64 1))))⟩
  (.op ⟨(some 4), none, (.p (.val (.tmp 14)))⟩
  .done)))))))))
 (.seq (.ops [] (.op ⟨(some 40), none, (.p (.val (.tmp 3)))⟩
  (.op ⟨(some 41), none, (.p (.bin .geq (.tmp 40) (.con (.int .i64 6000))))⟩
  (.op ⟨(some 42), none, (.p (.val (.tmp 41)))⟩
  (.op ⟨(some 43), (some (42, false)), (.p (.val (.tmp 0)))⟩
  (.op ⟨(some 44), (some (42, false)), (.p (.lenl (.tmp 43)))⟩
  (.op ⟨(some 45), (some (42, false)), (.p (.bin .gtr (.tmp 44) (.con (.int .i64 60))))⟩
  (.op ⟨(some 46), none, (.p (.pick (.tmp 42) (.con (.bool true)) (.tmp 45)))⟩
  (.op ⟨(some 2), none, (.p (.val (.tmp 46)))⟩
  .done)))))))))
 .ret))))⟩
theorem i5_is : compFunc Tryd.prog ⟨[], [], [19, 27, 35, 20, 28, 36]⟩ [] 5 = some i5 := by kernel_rfl

/-- baton/batonlaw23.awake -/
def i6 : IFn := ⟨0, 123, [.tmp 0],
 (.seq (.ops [] (.op ⟨(some 0), none, (.p (.val (.con (.bool false))))⟩
  .done))
 (.seq (.ops [] (.op ⟨(some 10), none, (.call 7 [])⟩
  (.op ⟨(some 1), none, (.p (.val (.tmp 10)))⟩
  .done)))
 (.seq (.ops [] (.op ⟨(some 12), none, (.p (.val (.tmp 1)))⟩
  (.op ⟨(some 13), none, (.p (.build [(.int .i64 0), (.int .u64 0)] [(0, 1, (.con (.int .i64 10))), (1, 1, (.con (.int .u64 1)))]))⟩
  (.op ⟨(some 14), none, (.p (.mks 2 [(.tmp 13)]))⟩
  (.op ⟨(some 15), none, (.call 18 [(.con (.str [120])), (.con (.int .i64 2)), (.tmp 14)])⟩
  (.op ⟨(some 16), none, (.call 8 [(.tmp 12), (.tmp 15)])⟩
  (.op ⟨(some 11), none, (.p (.val (.tmp 16)))⟩
  (.op ⟨(some 17), none, (.p (.ext 0 (.tmp 11)))⟩
  (.op ⟨(some 18), none, (.p (.ext 1 (.tmp 11)))⟩
  (.op ⟨(some 2), none, (.alloc [(.str []), (.str []), (.int .i64 0), (.slice true 2 [] .full), (.int .i64 0), (.bool false)])⟩
  (.op ⟨(some 2), none, (.storef 2 6 (.tmp 17))⟩
  (.op ⟨(some 3), none, (.p (.val (.tmp 18)))⟩
  .done))))))))))))
 (.seq (.ops [] (.op ⟨(some 20), none, (.p (.val (.tmp 1)))⟩
  (.op ⟨(some 21), none, (.p (.build [(.int .i64 0), (.int .u64 0)] [(0, 1, (.con (.int .i64 30))), (1, 1, (.con (.int .u64 1)))]))⟩
  (.op ⟨(some 22), none, (.p (.mks 2 [(.tmp 21)]))⟩
  (.op ⟨(some 23), none, (.call 18 [(.con (.str [120])), (.con (.int .i64 1)), (.tmp 22)])⟩
  (.op ⟨(some 24), none, (.call 8 [(.tmp 20), (.tmp 23)])⟩
  (.op ⟨(some 19), none, (.p (.val (.tmp 24)))⟩
  (.op ⟨(some 25), none, (.p (.ext 0 (.tmp 19)))⟩
  (.op ⟨(some 26), none, (.p (.ext 1 (.tmp 19)))⟩
  (.op ⟨(some 4), none, (.alloc [(.str []), (.str []), (.int .i64 0), (.slice true 2 [] .full), (.int .i64 0), (.bool false)])⟩
  (.op ⟨(some 4), none, (.storef 4 6 (.tmp 25))⟩
  (.op ⟨(some 5), none, (.p (.val (.tmp 26)))⟩
  .done))))))))))))
 (.seq (.ops [] (.op ⟨(some 28), none, (.p (.val (.tmp 1)))⟩
  (.op ⟨(some 29), none, (.p (.build [(.int .i64 0), (.int .u64 0)] [(0, 1, (.con (.int .i64 10))), (1, 1, (.con (.int .u64 1)))]))⟩
  (.op ⟨(some 30), none, (.p (.build [(.int .i64 0), (.int .u64 0)] [(0, 1, (.con (.int .i64 10))), (1, 1, (.con (.int .u64 2)))]))⟩
  (.op ⟨(some 31), none, (.p (.build [(.int .i64 0), (.int .u64 0)] [(0, 1, (.con (.int .i64 5))), (1, 1, (.con (.int .u64 1)))]))⟩
  (.op ⟨(some 32), none, (.p (.build [(.int .i64 0), (.int .u64 0)] [(0, 1, (.con (.int .i64 20))), (1, 1, (.con (.int .u64 1)))]))⟩
  (.op ⟨(some 33), none, (.p (.mks 2 [(.tmp 29), (.tmp 30), (.tmp 31), (.tmp 32)]))⟩
  (.op ⟨(some 34), none, (.call 18 [(.con (.str [120])), (.con (.int .i64 2)), (.tmp 33)])⟩
  (.op ⟨(some 35), none, (.call 8 [(.tmp 28), (.tmp 34)])⟩
  (.op ⟨(some 27), none, (.p (.val (.tmp 35)))⟩
  (.op ⟨(some 36), none, (.p (.ext 0 (.tmp 27)))⟩
  (.op ⟨(some 37), none, (.p (.ext 1 (.tmp 27)))⟩
  (.op ⟨(some 6), none, (.alloc [(.str []), (.str []), (.int .i64 0), (.slice true 2 [] .full), (.int .i64 0), (.bool false)])⟩
  (.op ⟨(some 6), none, (.storef 6 6 (.tmp 36))⟩
  (.op ⟨(some 7), none, (.p (.val (.tmp 37)))⟩
  .done)))))))))))))))
 (.seq (.ops [] (.op ⟨(some 39), none, (.p (.val (.tmp 1)))⟩
  (.op ⟨(some 40), none, (.p (.build [(.int .i64 0), (.int .u64 0)] [(0, 1, (.con (.int .i64 20))), (1, 1, (.con (.int .u64 1)))]))⟩
  (.op ⟨(some 41), none, (.p (.mks 2 [(.tmp 40)]))⟩
  (.op ⟨(some 42), none, (.call 18 [(.con (.str [])), (.con (.int .i64 0)), (.tmp 41)])⟩
  (.op ⟨(some 43), none, (.call 8 [(.tmp 39), (.tmp 42)])⟩
  (.op ⟨(some 38), none, (.p (.val (.tmp 43)))⟩
  (.op ⟨(some 44), none, (.p (.ext 0 (.tmp 38)))⟩
  (.op ⟨(some 45), none, (.p (.ext 1 (.tmp 38)))⟩
  (.op ⟨(some 8), none, (.alloc [(.str []), (.str []), (.int .i64 0), (.slice true 2 [] .full), (.int .i64 0), (.bool false)])⟩
  (.op ⟨(some 8), none, (.storef 8 6 (.tmp 44))⟩
  (.op ⟨(some 9), none, (.p (.val (.tmp 45)))⟩
  .done))))))))))))
 (.seq (.ops [] (.op ⟨(some 46), none, (.p (.val (.tmp 3)))⟩
  (.op ⟨(some 47), none, (.p (.bin .eql (.tmp 46) (.con (.int .i64 0))))⟩
  (.op ⟨(some 48), none, (.p (.val (.tmp 47)))⟩
  (.op ⟨(some 49), (some (48, true)), (.p (.faddr 5 (.tmp 2)))⟩
  (.op ⟨(some 50), (some (48, true)), (.p (.loadi false 1 (.tmp 49)))⟩
  (.op ⟨(some 51), none, (.p (.pick (.tmp 48) (.tmp 50) (.con (.bool false))))⟩
  (.op ⟨(some 52), none, (.p (.val (.tmp 51)))⟩
  (.op ⟨(some 53), (some (52, true)), (.p (.faddr 4 (.tmp 2)))⟩
  (.op ⟨(some 54), (some (52, true)), (.p (.loadi false 1 (.tmp 53)))⟩
  (.op ⟨(some 55), (some (52, true)), (.p (.bin .eql (.tmp 54) (.con (.int .i64 0))))⟩
  (.op ⟨(some 56), none, (.p (.pick (.tmp 52) (.tmp 55) (.con (.bool false))))⟩
  (.op ⟨(some 57), none, (.p (.val (.tmp 56)))⟩
  (.op ⟨(some 58), (some (57, true)), (.p (.faddr 0 (.tmp 2)))⟩
  (.op ⟨(some 59), (some (57, true)), (.p (.loadi true 4 (.tmp 58)))⟩
  (.op ⟨(some 60), (some (57, true)), (.p (.build [(.int .i64 0), (.int .u64 0)] [(0, 1, (.con (.int .i64 10))), (1, 1, (.con (.int .u64 1)))]))⟩
  (.op ⟨(some 61), (some (57, true)), (.p (.mks 2 [(.tmp 60)]))⟩
  (.op ⟨(some 62), (some (57, true)), (.call 18 [(.con (.str [120])), (.con (.int .i64 2)), (.tmp 61)])⟩
  (.op ⟨(some 63), (some (57, true)), (.call 9 [(.tmp 59), (.tmp 62)])⟩
  (.op ⟨(some 64), none, (.p (.pick (.tmp 57) (.tmp 63) (.con (.bool false))))⟩
  (.op ⟨(some 65), none, (.p (.val (.tmp 64)))⟩
  (.op ⟨(some 66), (some (65, true)), (.p (.val (.tmp 1)))⟩
  (.op ⟨(some 67), (some (65, true)), (.call 14 [(.tmp 66), (.con (.str [116])), (.con (.str [120]))])⟩
  (.op ⟨(some 68), (some (65, true)), (.p (.bin .eql (.tmp 67) (.con (.int .i64 2))))⟩
  (.op ⟨(some 69), none, (.p (.pick (.tmp 65) (.tmp 68) (.con (.bool false))))⟩
  (.op ⟨(some 70), none, (.p (.val (.tmp 69)))⟩
  (.op ⟨(some 71), (some (70, true)), (.p (.val (.tmp 5)))⟩
  (.op ⟨(some 72), (some (70, true)), (.p (.bin .eql (.tmp 71) (.con (.int .i64 61))))⟩
  (.op ⟨(some 73), none, (.p (.pick (.tmp 70) (.tmp 72) (.con (.bool false))))⟩
  (.op ⟨(some 74), none, (.p (.val (.tmp 73)))⟩
  (.op ⟨(some 75), (some (74, true)), (.p (.val (.tmp 7)))⟩
  (.op ⟨(some 76), (some (74, true)), (.p (.bin .eql (.tmp 75) (.con (.int .i64 0))))⟩
  (.op ⟨(some 77), none, (.p (.pick (.tmp 74) (.tmp 76) (.con (.bool false))))⟩
  (.op ⟨(some 78), none, (.p (.val (.tmp 77)))⟩
  (.op ⟨(some 79), (some (78, true)), (.p (.faddr 5 (.tmp 6)))⟩
  (.op ⟨(some 80), (some (78, true)), (.p (.loadi false 1 (.tmp 79)))⟩
  (.op ⟨(some 81), (some (78, true)), (.p (.un .not (.tmp 80)))⟩
  (.op ⟨(some 82), none, (.p (.pick (.tmp 78) (.tmp 81) (.con (.bool false))))⟩
  (.op ⟨(some 83), none, (.p (.val (.tmp 82)))⟩
  (.op ⟨(some 84), (some (83, true)), (.p (.faddr 4 (.tmp 6)))⟩
  (.op ⟨(some 85), (some (83, true)), (.p (.loadi false 1 (.tmp 84)))⟩
  (.op ⟨(some 86), (some (83, true)), (.p (.bin .eql (.tmp 85) (.con (.int .i64 2))))⟩
  (.op ⟨(some 87), none, (.p (.pick (.tmp 83) (.tmp 86) (.con (.bool false))))⟩
  (.op ⟨(some 88), none, (.p (.val (.tmp 87)))⟩
  (.op ⟨(some 89), (some (88, true)), (.p (.faddr 0 (.tmp 6)))⟩
  (.op ⟨(some 90), (some (88, true)), (.p (.loadi true 4 (.tmp 89)))⟩
  (.op ⟨(some 91), (some (88, true)), (.p (.build [(.int .i64 0), (.int .u64 0)] [(0, 1, (.con (.int .i64 20))), (1, 1, (.con (.int .u64 1)))]))⟩
  (.op ⟨(some 92), (some (88, true)), (.p (.mks 2 [(.tmp 91)]))⟩
  (.op ⟨(some 93), (some (88, true)), (.call 18 [(.con (.str [120])), (.con (.int .i64 2)), (.tmp 92)])⟩
  (.op ⟨(some 94), (some (88, true)), (.call 9 [(.tmp 90), (.tmp 93)])⟩
  (.op ⟨(some 95), none, (.p (.pick (.tmp 88) (.tmp 94) (.con (.bool false))))⟩
  (.op ⟨(some 96), none, (.p (.val (.tmp 95)))⟩
  (.op ⟨(some 97), (some (96, true)), (.p (.val (.tmp 9)))⟩
  (.op ⟨(some 98), (some (96, true)), (.p (.bin .eql (.tmp 97) (.con (.int .i64 0))))⟩
  (.op ⟨(some 99), none, (.p (.pick (.tmp 96) (.tmp 98) (.con (.bool false))))⟩
  (.op ⟨(some 100), none, (.p (.val (.tmp 99)))⟩
  (.op ⟨(some 101), (some (100, true)), (.p (.faddr 5 (.tmp 8)))⟩
  (.op ⟨(some 102), (some (100, true)), (.p (.loadi false 1 (.tmp 101)))⟩
  (.op ⟨(some 103), (some (100, true)), (.p (.un .not (.tmp 102)))⟩
  (.op ⟨(some 104), none, (.p (.pick (.tmp 100) (.tmp 103) (.con (.bool false))))⟩
  (.op ⟨(some 105), none, (.p (.val (.tmp 104)))⟩
  (.op ⟨(some 106), (some (105, true)), (.p (.faddr 4 (.tmp 8)))⟩
  (.op ⟨(some 107), (some (105, true)), (.p (.loadi false 1 (.tmp 106)))⟩
  (.op ⟨(some 108), (some (105, true)), (.p (.bin .eql (.tmp 107) (.con (.int .i64 0))))⟩
  (.op ⟨(some 109), none, (.p (.pick (.tmp 105) (.tmp 108) (.con (.bool false))))⟩
  (.op ⟨(some 110), none, (.p (.val (.tmp 109)))⟩
  (.op ⟨(some 111), (some (110, true)), (.p (.faddr 0 (.tmp 8)))⟩
  (.op ⟨(some 112), (some (110, true)), (.p (.faddr 3 (.tmp 111)))⟩
  (.op ⟨(some 113), (some (110, true)), (.p (.loadi false 1 (.tmp 112)))⟩
  (.op ⟨(some 114), (some (110, true)), (.p (.lenl (.tmp 113)))⟩
  (.op ⟨(some 115), (some (110, true)), (.p (.bin .eql (.tmp 114) (.con (.int .i64 0))))⟩
  (.op ⟨(some 116), none, (.p (.pick (.tmp 110) (.tmp 115) (.con (.bool false))))⟩
  (.op ⟨(some 117), none, (.p (.val (.tmp 116)))⟩
  (.op ⟨(some 118), (some (117, true)), (.p (.val (.tmp 1)))⟩
  (.op ⟨(some 119), (some (117, true)), (.call 12 [(.tmp 118)])⟩
  (.op ⟨(some 120), (some (117, true)), (.p (.lenl (.tmp 119)))⟩
  (.op ⟨(some 121), (some (117, true)), (.p (.bin .eql (.tmp 120) (.con (.int .i64 1))))⟩
  (.op ⟨(some 122), none, (.p (.pick (.tmp 117) (.tmp 121) (.con (.bool false))))⟩
  (.op ⟨(some 0), none, (.p (.val (.tmp 122)))⟩
  .done)))))))))))))))))))))))))))))))))))))))))))))))))))))))))))))))))))))))))))))))
 .ret)))))))⟩
theorem i6_is : compFunc Tryd.prog ⟨[2, 4, 6, 8], [], [2, 4, 6, 8, 49, 53, 58, 79, 84, 89, 101, 106, 111, 112]⟩ [] 6 = some i6 := by kernel_rfl

/-- baton/fence.New -/
def i7 : IFn := ⟨0, 5, [.tmp 0],
 (.seq (.ops [] (.op ⟨(some 0), none, (.p (.val (.con .nilptr)))⟩
  .done))
 (.seq (.ops [] (.op ⟨(some 1), none, .mkmap⟩
  (.op ⟨(some 2), none, .mkmap⟩
  (.op ⟨(some 3), none, (.p (.build [.nilmap, .nilmap] [(0, 1, (.tmp 1)), (1, 1, (.tmp 2))]))⟩
  (.op ⟨(some 4), none, (.p (.boxi (.tmp 3)))⟩
  (.op ⟨(some 0), none, (.p (.val (.tmp 4)))⟩
  .done))))))
 .ret))⟩
theorem i7_is : compFunc Tryd.prog ⟨[], [4], [4]⟩ [] 7 = some i7 := by kernel_rfl

/-- (*baton/fence.State).Take -/
def i8 : IFn := ⟨2, 99, [.cell 4 true 6, .tmp 5],
 (.seq (.ops [] (.op ⟨(some 3), none, (.p (.boxi (.tmp 1)))⟩
  (.op ⟨(some 4), none, (.alloc [(.str []), (.str []), (.int .i64 0), (.slice true 2 [] .full), (.int .i64 0), (.bool false)])⟩
  (.op ⟨(some 5), none, (.p (.val (.con (.int .i64 0))))⟩
  .done))))
 (.seq (.seq (.ops [] (.op ⟨(some 12), none, (.p (.val (.tmp 0)))⟩
  (.op ⟨(some 13), none, (.p (.eqn .p false (.tmp 12) (.con .nilptr)))⟩
  .done)))
 (.cond (.tmp 13)
 (.seq (.ops [] (.op ⟨(some 14), none, (.p (.build [(.str []), (.str []), (.int .i64 0), (.slice true 2 [] .full), (.int .i64 0), (.bool false)] []))⟩
  (.op ⟨none, none, (.store 6 (.tmp 4) (.tmp 14))⟩
  (.op ⟨(some 5), none, (.p (.val (.con (.int .i64 2))))⟩
  .done))))
 .ret)
 .skip))
 (.seq (.seq (.ops [] (.op ⟨(some 15), none, (.p (.loadi true 4 (.tmp 3)))⟩
  (.op ⟨(some 16), none, (.call 19 [(.tmp 15)])⟩
  (.op ⟨(some 17), none, (.p (.un .not (.tmp 16)))⟩
  .done))))
 (.cond (.tmp 17)
 (.seq (.ops [] (.op ⟨(some 18), none, (.p (.build [(.str []), (.str []), (.int .i64 0), (.slice true 2 [] .full), (.int .i64 0), (.bool false)] []))⟩
  (.op ⟨none, none, (.store 6 (.tmp 4) (.tmp 18))⟩
  (.op ⟨(some 5), none, (.p (.val (.con (.int .i64 4))))⟩
  .done))))
 .ret)
 .skip))
 (.seq (.ops [] (.op ⟨(some 19), none, (.p (.faddr 0 (.tmp 3)))⟩
  (.op ⟨(some 20), none, (.p (.loadi false 1 (.tmp 19)))⟩
  (.op ⟨(some 21), none, (.p (.faddr 1 (.tmp 3)))⟩
  (.op ⟨(some 22), none, (.p (.loadi false 1 (.tmp 21)))⟩
  (.op ⟨(some 23), none, (.p (.faddr 2 (.tmp 3)))⟩
  (.op ⟨(some 24), none, (.p (.loadi false 1 (.tmp 23)))⟩
  (.op ⟨(some 25), none, (.p (.build [(.str []), (.str []), (.int .i64 0), (.slice true 2 [] .full)] [(0, 1, (.tmp 20)), (1, 1, (.tmp 22)), (2, 1, (.tmp 24))]))⟩
  (.op ⟨(some 26), none, (.p (.build [(.str []), (.str []), (.int .i64 0), (.slice true 2 [] .full), (.int .i64 0), (.bool false)] [(0, 4, (.tmp 25))]))⟩
  (.op ⟨(some 6), none, (.alloc [(.str []), (.str []), (.int .i64 0), (.slice true 2 [] .full), (.int .i64 0), (.bool false)])⟩
  (.op ⟨none, none, (.store 6 (.tmp 6) (.tmp 26))⟩
  .done)))))))))))
 (.seq (.seq (.ops [] (.op ⟨(some 27), none, (.p (.faddr 1 (.tmp 3)))⟩
  (.op ⟨(some 28), none, (.p (.loadi false 1 (.tmp 27)))⟩
  (.op ⟨(some 29), none, (.p (.bin .neq (.tmp 28) (.con (.str []))))⟩
  .done))))
 (.cond (.tmp 29)
 (.seq (.ops [] (.op ⟨(some 30), none, (.p (.faddr 0 (.tmp 3)))⟩
  (.op ⟨(some 31), none, (.p (.loadi false 1 (.tmp 30)))⟩
  (.op ⟨(some 32), none, (.p (.faddr 1 (.tmp 3)))⟩
  (.op ⟨(some 33), none, (.p (.loadi false 1 (.tmp 32)))⟩
  (.op ⟨(some 34), none, (.p (.build [(.str []), (.str [])] [(0, 1, (.tmp 31)), (1, 1, (.tmp 33))]))⟩
  (.op ⟨(some 7), none, (.alloc [(.str []), (.str [])])⟩
  (.op ⟨(some 7), none, (.storef 7 2 (.tmp 34))⟩
  .done))))))))
 (.seq (.seq (.ops [] (.op ⟨(some 35), none, (.p (.faddr 2 (.tmp 3)))⟩
  (.op ⟨(some 36), none, (.p (.loadi false 1 (.tmp 35)))⟩
  (.op ⟨(some 37), none, (.p (.val (.tmp 0)))⟩
  (.op ⟨(some 38), none, (.p (.nilchk (.tmp 37)))⟩
  (.op ⟨(some 39), none, (.p (.faddr 0 (.tmp 38)))⟩
  (.op ⟨(some 40), none, (.p (.loadi false 1 (.tmp 39)))⟩
  (.op ⟨(some 41), none, (.p (.loadi true 2 (.tmp 7)))⟩
  (.op ⟨(some 42), none, (.mapget (.all [.s, .s]) false (.int .i64 0) (.tmp 40) (.tmp 41))⟩
  (.op ⟨(some 43), none, (.p (.bin .lss (.tmp 36) (.tmp 42)))⟩
  .done))))))))))
 (.cond (.tmp 43)
 (.seq (.ops [] (.op ⟨(some 44), none, (.p (.build [(.str []), (.str []), (.int .i64 0), (.slice true 2 [] .full), (.int .i64 0), (.bool false)] []))⟩
  (.op ⟨none, none, (.store 6 (.tmp 4) (.tmp 44))⟩
  (.op ⟨(some 5), none, (.p (.val (.con (.int .i64 61))))⟩
  .done))))
 .ret)
 .skip))
 (.seq (.ops [] (.op ⟨(some 45), none, (.p (.faddr 2 (.tmp 3)))⟩
  (.op ⟨(some 46), none, (.p (.loadi false 1 (.tmp 45)))⟩
  (.op ⟨(some 47), none, (.p (.val (.tmp 0)))⟩
  (.op ⟨(some 48), none, (.p (.nilchk (.tmp 47)))⟩
  (.op ⟨(some 49), none, (.p (.faddr 0 (.tmp 48)))⟩
  (.op ⟨(some 50), none, (.p (.loadi false 1 (.tmp 49)))⟩
  (.op ⟨(some 51), none, (.p (.loadi true 2 (.tmp 7)))⟩
  (.op ⟨(some 52), none, (.mapget (.all [.s, .s]) false (.int .i64 0) (.tmp 50) (.tmp 51))⟩
  (.op ⟨(some 53), none, (.p (.bin .gtr (.tmp 46) (.tmp 52)))⟩
  (.op ⟨(some 54), none, (.p (.faddr 5 (.tmp 6)))⟩
  (.op ⟨none, none, (.store 1 (.tmp 54) (.tmp 53))⟩
  .done))))))))))))
 (.ops [] (.op ⟨(some 55), none, (.p (.val (.tmp 0)))⟩
  (.op ⟨(some 56), none, (.p (.nilchk (.tmp 55)))⟩
  (.op ⟨(some 57), none, (.p (.faddr 0 (.tmp 56)))⟩
  (.op ⟨(some 58), none, (.p (.loadi false 1 (.tmp 57)))⟩
  (.op ⟨(some 59), none, (.p (.loadi true 2 (.tmp 7)))⟩
  (.op ⟨(some 60), none, (.p (.faddr 2 (.tmp 3)))⟩
  (.op ⟨(some 61), none, (.p (.loadi false 1 (.tmp 60)))⟩
  (.op ⟨none, none, (.mapset (.all [.s, .s]) (.tmp 58) (.tmp 59) (.tmp 61))⟩
  .done))))))))))))
 .skip))
 (.seq (.seq (.ops [] (.op ⟨(some 62), none, (.p (.faddr 3 (.tmp 3)))⟩
  (.op ⟨(some 63), none, (.p (.loadi false 1 (.tmp 62)))⟩
  (.op ⟨(some 64), none, (.p (.lenl (.tmp 63)))⟩
  (.op ⟨(some 65), none, (.p (.val (.con (.int .i64 0))))⟩
  .done)))))
 (.block 0 (.loop (.seq (.ops [] (.op ⟨(some 66), none, (.p (.bin .lss (.tmp 65) (.tmp 64)))⟩
  .done))
 (.seq (.cond (.tmp 66)
 .skip
 (.exit 0))
 (.seq (.block 1 (.seq (.ops [] (.op ⟨(some 67), none, (.p (.iaddr 2 (.tmp 63) (.tmp 65)))⟩
  (.op ⟨(some 68), none, (.p (.loadi true 2 (.tmp 67)))⟩
  (.op ⟨(some 9), none, (.alloc [(.slice true 2 [] .full), (.slice true 2 [] .full)])⟩
  (.op ⟨(some 9), none, (.storef 9 2 (.tmp 68))⟩
  .done)))))
 (.seq (.ops [] (.op ⟨(some 70), none, (.p (.val (.tmp 0)))⟩
  (.op ⟨(some 71), none, (.p (.faddr 0 (.tmp 3)))⟩
  (.op ⟨(some 72), none, (.p (.loadi false 1 (.tmp 71)))⟩
  (.op ⟨(some 73), none, (.p (.loadi true 2 (.tmp 9)))⟩
  (.op ⟨(some 74), none, (.call 20 [(.tmp 70), (.tmp 72), (.tmp 73)])⟩
  (.op ⟨(some 69), none, (.p (.val (.tmp 74)))⟩
  (.op ⟨(some 75), none, (.p (.ext 0 (.tmp 69)))⟩
  (.op ⟨(some 76), none, (.p (.ext 1 (.tmp 69)))⟩
  (.op ⟨(some 10), none, (.p (.val (.tmp 75)))⟩
  (.op ⟨(some 11), none, (.p (.val (.tmp 76)))⟩
  .done)))))))))))
 (.seq (.ops [] (.op ⟨(some 77), none, (.p (.faddr 4 (.tmp 6)))⟩
  (.op ⟨(some 78), none, (.load false 1 (.tmp 77))⟩
  (.op ⟨(some 79), none, (.p (.val (.tmp 11)))⟩
  (.op ⟨(some 80), none, (.p (.bin .add (.tmp 78) (.tmp 79)))⟩
  (.op ⟨(some 81), none, (.p (.faddr 4 (.tmp 6)))⟩
  (.op ⟨none, none, (.store 1 (.tmp 81) (.tmp 80))⟩
  .done)))))))
 (.seq (.ops [] (.op ⟨(some 82), none, (.p (.val (.tmp 10)))⟩
  (.op ⟨(some 83), none, (.p (.lenl (.tmp 82)))⟩
  (.op ⟨(some 84), none, (.p (.bin .gtr (.tmp 83) (.con (.int .i64 0))))⟩
  .done))))
 (.cond (.tmp 84)
 (.ops [] (.op ⟨(some 85), none, (.p (.faddr 0 (.tmp 6)))⟩
  (.op ⟨(some 86), none, (.p (.faddr 3 (.tmp 85)))⟩
  (.op ⟨(some 88), none, (.p (.faddr 0 (.tmp 9)))⟩
  (.op ⟨(some 89), none, (.p (.loadi false 1 (.tmp 88)))⟩
  (.op ⟨(some 91), none, (.p (.val (.tmp 10)))⟩
  (.br
  (.op ⟨(some 87), none, (.load false 1 (.tmp 86))⟩
  (.op ⟨(some 90), none, (.call 21 [(.tmp 89)])⟩
  (.op ⟨(some 92), none, (.p (.build [(.slice true 2 [] .full), (.slice true 2 [] .full)] [(0, 1, (.tmp 90)), (1, 1, (.tmp 91))]))⟩
  (.op ⟨(some 93), none, (.p (.mks 2 [(.tmp 92)]))⟩
  (.op ⟨(some 94), none, (.append 2 48 (.tmp 87) (.tmp 93))⟩
  (.op ⟨(some 95), none, (.p (.faddr 0 (.tmp 6)))⟩
  (.op ⟨(some 96), none, (.p (.faddr 3 (.tmp 95)))⟩
  (.op ⟨none, none, (.store 1 (.tmp 96) (.tmp 94))⟩
  .done))))))))
  (.op ⟨(some 90), none, (.call 21 [(.tmp 89)])⟩
  (.op ⟨(some 87), none, (.load false 1 (.tmp 86))⟩
  (.op ⟨(some 92), none, (.p (.build [(.slice true 2 [] .full), (.slice true 2 [] .full)] [(0, 1, (.tmp 90)), (1, 1, (.tmp 91))]))⟩
  (.op ⟨(some 93), none, (.p (.mks 2 [(.tmp 92)]))⟩
  (.op ⟨(some 94), none, (.append 2 48 (.tmp 87) (.tmp 93))⟩
  (.op ⟨(some 95), none, (.p (.faddr 0 (.tmp 6)))⟩
  (.op ⟨(some 96), none, (.p (.faddr 3 (.tmp 95)))⟩
  (.op ⟨none, none, (.store 1 (.tmp 96) (.tmp 94))⟩
  .done)))))))))))))))
 .skip))))))
 (.ops [] (.op ⟨(some 97), none, (.p (.bin .add (.tmp 65) (.con (.int .i64 1))))⟩
  (.op ⟨(some 65), none, (.p (.val (.tmp 97)))⟩
  .done)))))))))
 (.seq (.ops [] (.op ⟨(some 98), none, (.load true 6 (.tmp 6))⟩
  (.op ⟨none, none, (.store 6 (.tmp 4) (.tmp 98))⟩
  (.op ⟨(some 5), none, (.p (.val (.con (.int .i64 0))))⟩
  .done))))
 .ret)))))))⟩
theorem i8_is : compFunc Tryd.prog ⟨[7, 9], [3], [7, 9, 3, 0, 12, 19, 21, 23, 27, 30, 32, 35, 37, 45, 47, 55, 60, 62, 67, 70, 71, 88, 38, 48, 56, 39, 49, 57]⟩ [] 8 = some i8 := by kernel_rfl

/-- baton/batonref14.SameBatch -/
def i9 : IFn := ⟨2, 31, [.tmp 4],
 (.seq (.ops [] (.op ⟨(some 2), none, (.p (.boxi (.tmp 0)))⟩
  (.op ⟨(some 3), none, (.p (.boxi (.tmp 1)))⟩
  (.op ⟨(some 4), none, (.p (.val (.con (.bool false))))⟩
  .done))))
 (.seq (.ops [] (.op ⟨(some 5), none, (.p (.faddr 0 (.tmp 2)))⟩
  (.op ⟨(some 6), none, (.p (.loadi false 1 (.tmp 5)))⟩
  (.op ⟨(some 7), none, (.p (.faddr 0 (.tmp 3)))⟩
  (.op ⟨(some 8), none, (.p (.loadi false 1 (.tmp 7)))⟩
  (.op ⟨(some 9), none, (.p (.bin .eql (.tmp 6) (.tmp 8)))⟩
  (.op ⟨(some 10), none, (.p (.val (.tmp 9)))⟩
  (.op ⟨(some 11), (some (10, true)), (.p (.faddr 1 (.tmp 2)))⟩
  (.op ⟨(some 12), (some (10, true)), (.p (.loadi false 1 (.tmp 11)))⟩
  (.op ⟨(some 13), (some (10, true)), (.p (.faddr 1 (.tmp 3)))⟩
  (.op ⟨(some 14), (some (10, true)), (.p (.loadi false 1 (.tmp 13)))⟩
  (.op ⟨(some 15), (some (10, true)), (.p (.bin .eql (.tmp 12) (.tmp 14)))⟩
  (.op ⟨(some 16), none, (.p (.pick (.tmp 10) (.tmp 15) (.con (.bool false))))⟩
  (.op ⟨(some 17), none, (.p (.val (.tmp 16)))⟩
  (.op ⟨(some 18), (some (17, true)), (.p (.faddr 2 (.tmp 2)))⟩
  (.op ⟨(some 19), (some (17, true)), (.p (.loadi false 1 (.tmp 18)))⟩
  (.op ⟨(some 20), (some (17, true)), (.p (.faddr 2 (.tmp 3)))⟩
  (.op ⟨(some 21), (some (17, true)), (.p (.loadi false 1 (.tmp 20)))⟩
  (.op ⟨(some 22), (some (17, true)), (.p (.bin .eql (.tmp 19) (.tmp 21)))⟩
  (.op ⟨(some 23), none, (.p (.pick (.tmp 17) (.tmp 22) (.con (.bool false))))⟩
  (.op ⟨(some 24), none, (.p (.val (.tmp 23)))⟩
  (.op ⟨(some 25), (some (24, true)), (.p (.faddr 3 (.tmp 2)))⟩
  (.op ⟨(some 26), (some (24, true)), (.p (.loadi false 1 (.tmp 25)))⟩
  (.op ⟨(some 27), (some (24, true)), (.p (.faddr 3 (.tmp 3)))⟩
  (.op ⟨(some 28), (some (24, true)), (.p (.loadi false 1 (.tmp 27)))⟩
  (.op ⟨(some 29), (some (24, true)), (.call 22 [(.tmp 26), (.tmp 28)])⟩
  (.op ⟨(some 30), none, (.p (.pick (.tmp 24) (.tmp 29) (.con (.bool false))))⟩
  (.op ⟨(some 4), none, (.p (.val (.tmp 30)))⟩
  .done))))))))))))))))))))))))))))
 .ret))⟩
theorem i9_is : compFunc Tryd.prog ⟨[], [2, 3], [2, 3, 5, 7, 11, 13, 18, 20, 25, 27]⟩ [] 9 = some i9 := by kernel_rfl

/-- baton/fence.Same -/
def i10 : IFn := ⟨2, 37, [.tmp 4],
 (.seq (.ops [] (.op ⟨(some 4), none, (.p (.val (.con (.bool false))))⟩
  .done))
 (.seq (.seq (.ops [] (.op ⟨(some 5), none, (.p (.val (.tmp 0)))⟩
  (.op ⟨(some 6), none, (.p (.eqn .p false (.tmp 5) (.con .nilptr)))⟩
  (.op ⟨(some 7), none, (.p (.val (.tmp 6)))⟩
  (.op ⟨(some 8), (some (7, false)), (.p (.val (.tmp 1)))⟩
  (.op ⟨(some 9), (some (7, false)), (.p (.eqn .p false (.tmp 8) (.con .nilptr)))⟩
  (.op ⟨(some 10), none, (.p (.pick (.tmp 7) (.con (.bool true)) (.tmp 9)))⟩
  .done)))))))
 (.cond (.tmp 10)
 (.seq (.ops [] (.op ⟨(some 11), none, (.p (.val (.tmp 0)))⟩
  (.op ⟨(some 12), none, (.p (.eqn .p false (.tmp 11) (.con .nilptr)))⟩
  (.op ⟨(some 13), none, (.p (.val (.tmp 12)))⟩
  (.op ⟨(some 14), (some (13, true)), (.p (.val (.tmp 1)))⟩
  (.op ⟨(some 15), (some (13, true)), (.p (.eqn .p false (.tmp 14) (.con .nilptr)))⟩
  (.op ⟨(some 16), none, (.p (.pick (.tmp 13) (.tmp 15) (.con (.bool false))))⟩
  (.op ⟨(some 4), none, (.p (.val (.tmp 16)))⟩
  .done))))))))
 .ret)
 .skip))
 (.seq (.ops [] (.op ⟨(some 17), none, (.p (.val (.tmp 0)))⟩
  (.op ⟨(some 18), none, (.p (.nilchk (.tmp 17)))⟩
  (.op ⟨(some 19), none, (.p (.faddr 0 (.tmp 18)))⟩
  (.op ⟨(some 20), none, (.p (.loadi false 1 (.tmp 19)))⟩
  (.op ⟨(some 21), none, (.p (.val (.tmp 1)))⟩
  (.op ⟨(some 22), none, (.p (.nilchk (.tmp 21)))⟩
  (.op ⟨(some 23), none, (.p (.faddr 0 (.tmp 22)))⟩
  (.op ⟨(some 24), none, (.p (.loadi false 1 (.tmp 23)))⟩
  (.op ⟨(some 25), none, (.call 23 [(.tmp 20), (.tmp 24)])⟩
  (.op ⟨(some 26), none, (.p (.val (.tmp 25)))⟩
  (.op ⟨(some 27), (some (26, true)), (.p (.val (.tmp 0)))⟩
  (.op ⟨(some 28), (some (26, true)), (.p (.nilchk (.tmp 27)))⟩
  (.op ⟨(some 29), (some (26, true)), (.p (.faddr 1 (.tmp 28)))⟩
  (.op ⟨(some 30), (some (26, true)), (.p (.loadi false 1 (.tmp 29)))⟩
  (.op ⟨(some 31), (some (26, true)), (.p (.val (.tmp 1)))⟩
  (.op ⟨(some 32), (some (26, true)), (.p (.nilchk (.tmp 31)))⟩
  (.op ⟨(some 33), (some (26, true)), (.p (.faddr 1 (.tmp 32)))⟩
  (.op ⟨(some 34), (some (26, true)), (.p (.loadi false 1 (.tmp 33)))⟩
  (.op ⟨(some 35), (some (26, true)), (.call 24 [(.tmp 30), (.tmp 34), (.con (.func (.func 25) [] []))])⟩
  (.op ⟨(some 36), none, (.p (.pick (.tmp 26) (.tmp 35) (.con (.bool false))))⟩
  (.op ⟨(some 4), none, (.p (.val (.tmp 36)))⟩
  .done))))))))))))))))))))))
 .ret)))⟩
theorem i10_is : compFunc Tryd.prog ⟨[], [], [0, 1, 5, 8, 11, 14, 17, 21, 27, 31, 18, 22, 28, 32, 19, 23, 29, 33]⟩ [] 10 = some i10 := by kernel_rfl

/-- baton/fence.Of -/
def i11 : IFn := ⟨2, 95, [.tmp 4, .tmp 5],
 (.seq (.ops [] (.op ⟨(some 4), none, (.p (.val (.con .nilptr)))⟩
  (.op ⟨(some 5), none, (.p (.val (.con (.int .i64 0))))⟩
  .done)))
 (.seq (.ops [] (.op ⟨(some 14), none, (.call 7 [])⟩
  (.op ⟨(some 6), none, (.p (.val (.tmp 14)))⟩
  .done)))
 (.seq (.ops [] (.op ⟨(some 7), none, (.alloc [(.str []), (.str [])])⟩
  .done))
 (.seq (.seq (.ops [] (.op ⟨(some 15), none, (.p (.val (.tmp 0)))⟩
  (.op ⟨(some 16), none, (.p (.lenl (.tmp 15)))⟩
  (.op ⟨(some 17), none, (.p (.val (.con (.int .i64 0))))⟩
  .done))))
 (.block 0 (.loop (.seq (.ops [] (.op ⟨(some 18), none, (.p (.bin .lss (.tmp 17) (.tmp 16)))⟩
  .done))
 (.seq (.cond (.tmp 18)
 .skip
 (.exit 0))
 (.seq (.block 1 (.seq (.ops [] (.op ⟨(some 19), none, (.p (.val (.tmp 17)))⟩
  (.op ⟨(some 20), none, (.p (.iaddr 3 (.tmp 15) (.tmp 17)))⟩
  (.op ⟨(some 21), none, (.p (.loadi true 3 (.tmp 20)))⟩
  (.op ⟨(some 9), none, (.alloc [(.str []), (.str []), (.int .i64 0)])⟩
  (.op ⟨(some 8), none, (.p (.val (.tmp 19)))⟩
  (.op ⟨(some 9), none, (.storef 9 3 (.tmp 21))⟩
  .done)))))))
 (.seq (.ops [] (.op ⟨(some 22), none, (.p (.faddr 0 (.tmp 9)))⟩
  (.op ⟨(some 23), none, (.p (.loadi false 1 (.tmp 22)))⟩
  (.op ⟨(some 24), none, (.p (.faddr 1 (.tmp 9)))⟩
  (.op ⟨(some 25), none, (.p (.loadi false 1 (.tmp 24)))⟩
  (.op ⟨(some 26), none, (.p (.build [(.str []), (.str [])] [(0, 1, (.tmp 23)), (1, 1, (.tmp 25))]))⟩
  (.op ⟨(some 10), none, (.alloc [(.str []), (.str [])])⟩
  (.op ⟨(some 10), none, (.storef 10 2 (.tmp 26))⟩
  .done))))))))
 (.seq (.seq (.ops [] (.op ⟨(some 27), none, (.p (.loadi true 3 (.tmp 9)))⟩
  (.op ⟨(some 28), none, (.call 27 [(.tmp 27)])⟩
  (.op ⟨(some 29), none, (.p (.un .not (.tmp 28)))⟩
  (.op ⟨(some 30), none, (.p (.val (.tmp 29)))⟩
  (.op ⟨(some 31), (some (30, false)), (.p (.val (.tmp 8)))⟩
  (.op ⟨(some 32), (some (30, false)), (.p (.bin .gtr (.tmp 31) (.con (.int .i64 0))))⟩
  (.op ⟨(some 33), (some (30, false)), (.p (.val (.tmp 32)))⟩
  (.op ⟨(some 34), (some (33, true)), (.load true 2 (.tmp 7))⟩
  (.op ⟨(some 35), (some (33, true)), (.p (.loadi true 2 (.tmp 10)))⟩
  (.op ⟨(some 36), (some (33, true)), (.call 28 [(.tmp 34), (.tmp 35)])⟩
  (.op ⟨(some 37), (some (33, true)), (.p (.un .not (.tmp 36)))⟩
  (.op ⟨(some 38), (some (30, false)), (.p (.pick (.tmp 33) (.tmp 37) (.con (.bool false))))⟩
  (.op ⟨(some 39), none, (.p (.pick (.tmp 30) (.con (.bool true)) (.tmp 38)))⟩
  .done))))))))))))))
 (.cond (.tmp 39)
 (.seq (.ops [] (.op ⟨(some 4), none, (.p (.val (.con .nilptr)))⟩
  (.op ⟨(some 5), none, (.p (.val (.con (.int .i64 4))))⟩
  .done)))
 .ret)
 .skip))
 (.ops [] (.op ⟨(some 40), none, (.p (.val (.tmp 6)))⟩
  (.op ⟨(some 41), none, (.p (.nilchk (.tmp 40)))⟩
  (.op ⟨(some 42), none, (.p (.faddr 0 (.tmp 41)))⟩
  (.op ⟨(some 43), none, (.load false 1 (.tmp 42))⟩
  (.op ⟨(some 44), none, (.p (.loadi true 2 (.tmp 10)))⟩
  (.op ⟨(some 45), none, (.p (.faddr 2 (.tmp 9)))⟩
  (.op ⟨(some 46), none, (.p (.loadi false 1 (.tmp 45)))⟩
  (.op ⟨(some 47), none, (.p (.loadi true 2 (.tmp 10)))⟩
  (.op ⟨(some 48), none, (.ment (.all [.s, .s]) (.int .i64 0) (.tmp 43) (.tmp 44))⟩
  (.op ⟨(some 49), none, (.p (.ext 1 (.tmp 48)))⟩
  (.op ⟨none, none, (.entst (.tmp 43) (.tmp 49) (.tmp 46))⟩
  (.op ⟨none, none, (.store 2 (.tmp 7) (.tmp 47))⟩
  .done)))))))))))))))))
 (.ops [] (.op ⟨(some 50), none, (.p (.bin .add (.tmp 17) (.con (.int .i64 1))))⟩
  (.op ⟨(some 17), none, (.p (.val (.tmp 50)))⟩
  .done)))))))))
 (.seq (.seq (.ops [] (.op ⟨(some 51), none, (.p (.val (.tmp 1)))⟩
  (.op ⟨(some 52), none, (.p (.lenl (.tmp 51)))⟩
  (.op ⟨(some 53), none, (.p (.val (.con (.int .i64 0))))⟩
  .done))))
 (.block 2 (.loop (.seq (.ops [] (.op ⟨(some 54), none, (.p (.bin .lss (.tmp 53) (.tmp 52)))⟩
  .done))
 (.seq (.cond (.tmp 54)
 .skip
 (.exit 2))
 (.seq (.block 3 (.seq (.ops [] (.op ⟨(some 55), none, (.p (.val (.tmp 53)))⟩
  (.op ⟨(some 56), none, (.p (.iaddr 3 (.tmp 51) (.tmp 53)))⟩
  (.op ⟨(some 57), none, (.p (.loadi true 3 (.tmp 56)))⟩
  (.op ⟨(some 12), none, (.alloc [(.str []), (.slice true 2 [] .full), (.slice true 2 [] .full)])⟩
  (.op ⟨(some 11), none, (.p (.val (.tmp 55)))⟩
  (.op ⟨(some 12), none, (.storef 12 3 (.tmp 57))⟩
  .done)))))))
 (.seq (.seq (.ops [] (.op ⟨(some 58), none, (.p (.loadi true 3 (.tmp 12)))⟩
  (.op ⟨(some 59), none, (.call 29 [(.tmp 58)])⟩
  (.op ⟨(some 60), none, (.p (.un .not (.tmp 59)))⟩
  .done))))
 (.cond (.tmp 60)
 (.seq (.ops [] (.op ⟨(some 4), none, (.p (.val (.con .nilptr)))⟩
  (.op ⟨(some 5), none, (.p (.val (.con (.int .i64 4))))⟩
  .done)))
 .ret)
 .skip))
 (.seq (.ops [] (.op ⟨(some 61), none, (.p (.faddr 0 (.tmp 12)))⟩
  (.op ⟨(some 62), none, (.p (.loadi false 1 (.tmp 61)))⟩
  (.op ⟨(some 63), none, (.p (.faddr 1 (.tmp 12)))⟩
  (.op ⟨(some 64), none, (.p (.faddr 0 (.tmp 63)))⟩
  (.op ⟨(some 65), none, (.p (.loadi false 1 (.tmp 64)))⟩
  (.br
  (.op ⟨(some 66), none, (.call 30 [(.tmp 65)])⟩
  (.op ⟨(some 67), none, (.p (.build [(.str []), (.str [])] [(0, 1, (.tmp 62)), (1, 1, (.tmp 66))]))⟩
  (.op ⟨(some 13), none, (.alloc [(.str []), (.str [])])⟩
  (.op ⟨(some 13), none, (.storef 13 2 (.tmp 67))⟩
  .done))))
  (.op ⟨(some 13), none, (.alloc [(.str []), (.str [])])⟩
  (.op ⟨(some 66), none, (.call 30 [(.tmp 65)])⟩
  (.op ⟨(some 67), none, (.p (.build [(.str []), (.str [])] [(0, 1, (.tmp 62)), (1, 1, (.tmp 66))]))⟩
  (.op ⟨(some 13), none, (.storef 13 2 (.tmp 67))⟩
  .done)))))))))))
 (.seq (.seq (.ops [] (.op ⟨(some 68), none, (.p (.val (.tmp 11)))⟩
  (.op ⟨(some 69), none, (.p (.bin .gtr (.tmp 68) (.con (.int .i64 0))))⟩
  (.op ⟨(some 70), none, (.p (.val (.tmp 69)))⟩
  (.op ⟨(some 71), (some (70, true)), (.load true 2 (.tmp 7))⟩
  (.op ⟨(some 72), (some (70, true)), (.p (.loadi true 2 (.tmp 13)))⟩
  (.op ⟨(some 73), (some (70, true)), (.call 28 [(.tmp 71), (.tmp 72)])⟩
  (.op ⟨(some 74), (some (70, true)), (.p (.un .not (.tmp 73)))⟩
  (.op ⟨(some 75), none, (.p (.pick (.tmp 70) (.tmp 74) (.con (.bool false))))⟩
  .done)))))))))
 (.cond (.tmp 75)
 (.seq (.ops [] (.op ⟨(some 4), none, (.p (.val (.con .nilptr)))⟩
  (.op ⟨(some 5), none, (.p (.val (.con (.int .i64 4))))⟩
  .done)))
 .ret)
 .skip))
 (.ops [] (.op ⟨(some 76), none, (.p (.val (.tmp 6)))⟩
  (.op ⟨(some 77), none, (.p (.nilchk (.tmp 76)))⟩
  (.op ⟨(some 78), none, (.p (.faddr 1 (.tmp 77)))⟩
  (.op ⟨(some 80), none, (.p (.loadi true 2 (.tmp 13)))⟩
  (.op ⟨(some 81), none, (.p (.faddr 1 (.tmp 12)))⟩
  (.op ⟨(some 82), none, (.p (.faddr 0 (.tmp 81)))⟩
  (.op ⟨(some 83), none, (.p (.loadi false 1 (.tmp 82)))⟩
  (.op ⟨(some 85), none, (.p (.faddr 1 (.tmp 12)))⟩
  (.op ⟨(some 86), none, (.p (.faddr 1 (.tmp 85)))⟩
  (.op ⟨(some 87), none, (.p (.loadi false 1 (.tmp 86)))⟩
  (.op ⟨(some 90), none, (.p (.loadi true 2 (.tmp 13)))⟩
  (.br
  (.op ⟨(some 79), none, (.load false 1 (.tmp 78))⟩
  (.op ⟨(some 84), none, (.call 21 [(.tmp 83)])⟩
  (.op ⟨(some 88), none, (.call 31 [(.tmp 87)])⟩
  (.op ⟨(some 89), none, (.p (.build [(.slice true 2 [] .full), (.slice true 2 [] .full)] [(0, 1, (.tmp 84)), (1, 1, (.tmp 88))]))⟩
  (.op ⟨(some 91), none, (.ment (.all [.s, .s]) (.agg [(.slice true 2 [] .full), (.slice true 2 [] .full)]) (.tmp 79) (.tmp 80))⟩
  (.op ⟨(some 92), none, (.p (.ext 1 (.tmp 91)))⟩
  (.op ⟨none, none, (.entst (.tmp 79) (.tmp 92) (.tmp 89))⟩
  (.op ⟨none, none, (.store 2 (.tmp 7) (.tmp 90))⟩
  .done))))))))
  (.op ⟨(some 84), none, (.call 21 [(.tmp 83)])⟩
  (.br
  (.op ⟨(some 79), none, (.load false 1 (.tmp 78))⟩
  (.op ⟨(some 88), none, (.call 31 [(.tmp 87)])⟩
  (.op ⟨(some 89), none, (.p (.build [(.slice true 2 [] .full), (.slice true 2 [] .full)] [(0, 1, (.tmp 84)), (1, 1, (.tmp 88))]))⟩
  (.op ⟨(some 91), none, (.ment (.all [.s, .s]) (.agg [(.slice true 2 [] .full), (.slice true 2 [] .full)]) (.tmp 79) (.tmp 80))⟩
  (.op ⟨(some 92), none, (.p (.ext 1 (.tmp 91)))⟩
  (.op ⟨none, none, (.entst (.tmp 79) (.tmp 92) (.tmp 89))⟩
  (.op ⟨none, none, (.store 2 (.tmp 7) (.tmp 90))⟩
  .done)))))))
  (.op ⟨(some 88), none, (.call 31 [(.tmp 87)])⟩
  (.op ⟨(some 79), none, (.load false 1 (.tmp 78))⟩
  (.op ⟨(some 89), none, (.p (.build [(.slice true 2 [] .full), (.slice true 2 [] .full)] [(0, 1, (.tmp 84)), (1, 1, (.tmp 88))]))⟩
  (.op ⟨(some 91), none, (.ment (.all [.s, .s]) (.agg [(.slice true 2 [] .full), (.slice true 2 [] .full)]) (.tmp 79) (.tmp 80))⟩
  (.op ⟨(some 92), none, (.p (.ext 1 (.tmp 91)))⟩
  (.op ⟨none, none, (.entst (.tmp 79) (.tmp 92) (.tmp 89))⟩
  (.op ⟨none, none, (.store 2 (.tmp 7) (.tmp 90))⟩
  .done)))))))))))))))))))))))))))
 (.ops [] (.op ⟨(some 93), none, (.p (.bin .add (.tmp 53) (.con (.int .i64 1))))⟩
  (.op ⟨(some 53), none, (.p (.val (.tmp 93)))⟩
  .done)))))))))
 (.seq (.ops [] (.op ⟨(some 94), none, (.p (.val (.tmp 6)))⟩
  (.op ⟨(some 4), none, (.p (.val (.tmp 94)))⟩
  (.op ⟨(some 5), none, (.p (.val (.con (.int .i64 0))))⟩
  .done))))
 .ret))))))⟩
theorem i11_is : compFunc Tryd.prog ⟨[9, 10, 12, 13], [], [9, 10, 12, 13, 20, 22, 24, 45, 56, 61, 63, 81, 85, 64, 82, 86]⟩ [] 11 = some i11 := by kernel_rfl

/-- (*baton/fence.State).Fences -/
def i12 : IFn := ⟨1, 35, [.tmp 2],
 (.seq (.ops [] (.op ⟨(some 2), none, (.p (.val (.con (.slice true 3 [] .full))))⟩
  .done))
 (.seq (.seq (.ops [] (.op ⟨(some 6), none, (.p (.val (.tmp 0)))⟩
  (.op ⟨(some 7), none, (.p (.eqn .p false (.tmp 6) (.con .nilptr)))⟩
  .done)))
 (.cond (.tmp 7)
 (.seq (.ops [] (.op ⟨(some 2), none, (.p (.val (.con (.slice true 3 [] .full))))⟩
  .done))
 .ret)
 .skip))
 (.seq (.ops [] (.op ⟨(some 3), none, (.p (.val (.con (.slice true 3 [] .full))))⟩
  .done))
 (.seq (.seq (.ops [] (.op ⟨(some 8), none, (.p (.val (.tmp 0)))⟩
  (.op ⟨(some 9), none, (.p (.nilchk (.tmp 8)))⟩
  (.op ⟨(some 10), none, (.p (.faddr 0 (.tmp 9)))⟩
  (.op ⟨(some 11), none, (.p (.loadi false 1 (.tmp 10)))⟩
  (.op ⟨(some 12), none, (.call 33 [(.tmp 11)])⟩
  (.op ⟨(some 13), none, (.call 32 [(.tmp 12), (.con (.func (.func 34) [] []))])⟩
  (.op ⟨(some 14), none, (.p (.lenl (.tmp 13)))⟩
  (.op ⟨(some 15), none, (.p (.val (.con (.int .i64 0))))⟩
  .done)))))))))
 (.block 0 (.loop (.seq (.ops [] (.op ⟨(some 16), none, (.p (.bin .lss (.tmp 15) (.tmp 14)))⟩
  .done))
 (.seq (.cond (.tmp 16)
 .skip
 (.exit 0))
 (.seq (.block 1 (.seq (.ops [] (.op ⟨(some 17), none, (.p (.iaddr 2 (.tmp 13) (.tmp 15)))⟩
  (.op ⟨(some 18), none, (.p (.loadi true 2 (.tmp 17)))⟩
  (.op ⟨(some 5), none, (.alloc [(.str []), (.str [])])⟩
  (.op ⟨(some 5), none, (.storef 5 2 (.tmp 18))⟩
  .done)))))
 (.ops [] (.op ⟨(some 19), none, (.p (.val (.tmp 3)))⟩
  (.op ⟨(some 20), none, (.p (.faddr 0 (.tmp 5)))⟩
  (.op ⟨(some 21), none, (.p (.loadi false 1 (.tmp 20)))⟩
  (.op ⟨(some 22), none, (.p (.faddr 1 (.tmp 5)))⟩
  (.op ⟨(some 23), none, (.p (.loadi false 1 (.tmp 22)))⟩
  (.op ⟨(some 24), none, (.p (.val (.tmp 0)))⟩
  (.op ⟨(some 25), none, (.p (.nilchk (.tmp 24)))⟩
  (.op ⟨(some 26), none, (.p (.faddr 0 (.tmp 25)))⟩
  (.op ⟨(some 27), none, (.p (.loadi false 1 (.tmp 26)))⟩
  (.op ⟨(some 28), none, (.p (.loadi true 2 (.tmp 5)))⟩
  (.op ⟨(some 29), none, (.mapget (.all [.s, .s]) false (.int .i64 0) (.tmp 27) (.tmp 28))⟩
  (.op ⟨(some 30), none, (.p (.build [(.str []), (.str []), (.int .i64 0)] [(0, 1, (.tmp 21)), (1, 1, (.tmp 23)), (2, 1, (.tmp 29))]))⟩
  (.op ⟨(some 31), none, (.p (.mks 3 [(.tmp 30)]))⟩
  (.op ⟨(some 32), none, (.append 3 40 (.tmp 19) (.tmp 31))⟩
  (.op ⟨(some 3), none, (.p (.val (.tmp 32)))⟩
  .done))))))))))))))))))
 (.ops [] (.op ⟨(some 33), none, (.p (.bin .add (.tmp 15) (.con (.int .i64 1))))⟩
  (.op ⟨(some 15), none, (.p (.val (.tmp 33)))⟩
  .done)))))))))
 (.seq (.ops [] (.op ⟨(some 34), none, (.p (.val (.tmp 3)))⟩
  (.op ⟨(some 2), none, (.p (.val (.tmp 34)))⟩
  .done)))
 .ret)))))⟩
theorem i12_is : compFunc Tryd.prog ⟨[5], [], [5, 0, 6, 8, 17, 20, 22, 24, 9, 25, 10, 26]⟩ [] 12 = some i12 := by kernel_rfl

/-- (*baton/fence.State).All -/
def i13 : IFn := ⟨1, 41, [.tmp 2],
 (.seq (.ops [] (.op ⟨(some 2), none, (.p (.val (.con (.slice true 3 [] .full))))⟩
  .done))
 (.seq (.seq (.ops [] (.op ⟨(some 7), none, (.p (.val (.tmp 0)))⟩
  (.op ⟨(some 8), none, (.p (.eqn .p false (.tmp 7) (.con .nilptr)))⟩
  .done)))
 (.cond (.tmp 8)
 (.seq (.ops [] (.op ⟨(some 2), none, (.p (.val (.con (.slice true 3 [] .full))))⟩
  .done))
 .ret)
 .skip))
 (.seq (.ops [] (.op ⟨(some 3), none, (.p (.val (.con (.slice true 3 [] .full))))⟩
  .done))
 (.seq (.seq (.ops [] (.op ⟨(some 9), none, (.p (.val (.tmp 0)))⟩
  (.op ⟨(some 10), none, (.p (.nilchk (.tmp 9)))⟩
  (.op ⟨(some 11), none, (.p (.faddr 1 (.tmp 10)))⟩
  (.op ⟨(some 12), none, (.p (.loadi false 1 (.tmp 11)))⟩
  (.op ⟨(some 13), none, (.call 35 [(.tmp 12)])⟩
  (.op ⟨(some 14), none, (.call 32 [(.tmp 13), (.con (.func (.func 34) [] []))])⟩
  (.op ⟨(some 15), none, (.p (.lenl (.tmp 14)))⟩
  (.op ⟨(some 16), none, (.p (.val (.con (.int .i64 0))))⟩
  .done)))))))))
 (.block 0 (.loop (.seq (.ops [] (.op ⟨(some 17), none, (.p (.bin .lss (.tmp 16) (.tmp 15)))⟩
  .done))
 (.seq (.cond (.tmp 17)
 .skip
 (.exit 0))
 (.seq (.block 1 (.seq (.ops [] (.op ⟨(some 18), none, (.p (.iaddr 2 (.tmp 14) (.tmp 16)))⟩
  (.op ⟨(some 19), none, (.p (.loadi true 2 (.tmp 18)))⟩
  (.op ⟨(some 5), none, (.alloc [(.str []), (.str [])])⟩
  (.op ⟨(some 5), none, (.storef 5 2 (.tmp 19))⟩
  .done)))))
 (.seq (.ops [] (.op ⟨(some 20), none, (.p (.val (.tmp 0)))⟩
  (.op ⟨(some 21), none, (.p (.nilchk (.tmp 20)))⟩
  (.op ⟨(some 22), none, (.p (.faddr 1 (.tmp 21)))⟩
  (.op ⟨(some 23), none, (.p (.loadi false 1 (.tmp 22)))⟩
  (.op ⟨(some 24), none, (.p (.loadi true 2 (.tmp 5)))⟩
  (.op ⟨(some 25), none, (.mapget (.all [.s, .s]) false (.agg [(.slice true 2 [] .full), (.slice true 2 [] .full)]) (.tmp 23) (.tmp 24))⟩
  (.op ⟨(some 6), none, (.alloc [(.slice true 2 [] .full), (.slice true 2 [] .full)])⟩
  (.op ⟨(some 6), none, (.storef 6 2 (.tmp 25))⟩
  .done)))))))))
 (.ops [] (.op ⟨(some 26), none, (.p (.val (.tmp 3)))⟩
  (.op ⟨(some 27), none, (.p (.faddr 0 (.tmp 5)))⟩
  (.op ⟨(some 28), none, (.p (.loadi false 1 (.tmp 27)))⟩
  (.op ⟨(some 29), none, (.p (.faddr 0 (.tmp 6)))⟩
  (.op ⟨(some 30), none, (.p (.loadi false 1 (.tmp 29)))⟩
  (.op ⟨(some 32), none, (.p (.faddr 1 (.tmp 6)))⟩
  (.op ⟨(some 33), none, (.p (.loadi false 1 (.tmp 32)))⟩
  (.op ⟨(some 31), none, (.call 21 [(.tmp 30)])⟩
  (.op ⟨(some 34), none, (.call 31 [(.tmp 33)])⟩
  (.op ⟨(some 35), none, (.p (.build [(.slice true 2 [] .full), (.slice true 2 [] .full)] [(0, 1, (.tmp 31)), (1, 1, (.tmp 34))]))⟩
  (.op ⟨(some 36), none, (.p (.build [(.str []), (.slice true 2 [] .full), (.slice true 2 [] .full)] [(0, 1, (.tmp 28)), (1, 2, (.tmp 35))]))⟩
  (.op ⟨(some 37), none, (.p (.mks 3 [(.tmp 36)]))⟩
  (.op ⟨(some 38), none, (.append 3 64 (.tmp 26) (.tmp 37))⟩
  (.op ⟨(some 3), none, (.p (.val (.tmp 38)))⟩
  .done))))))))))))))))))
 (.ops [] (.op ⟨(some 39), none, (.p (.bin .add (.tmp 16) (.con (.int .i64 1))))⟩
  (.op ⟨(some 16), none, (.p (.val (.tmp 39)))⟩
  .done)))))))))
 (.seq (.ops [] (.op ⟨(some 40), none, (.p (.val (.tmp 3)))⟩
  (.op ⟨(some 2), none, (.p (.val (.tmp 40)))⟩
  .done)))
 .ret)))))⟩
theorem i13_is : compFunc Tryd.prog ⟨[5, 6], [], [5, 6, 0, 7, 9, 18, 20, 27, 29, 32, 10, 21, 11, 22]⟩ [] 13 = some i13 := by kernel_rfl

/-- (*baton/fence.State).Fence -/
def i14 : IFn := ⟨3, 17, [.tmp 6],
 (.seq (.ops [] (.op ⟨(some 6), none, (.p (.val (.con (.int .i64 0))))⟩
  .done))
 (.seq (.seq (.ops [] (.op ⟨(some 7), none, (.p (.val (.tmp 0)))⟩
  (.op ⟨(some 8), none, (.p (.eqn .p false (.tmp 7) (.con .nilptr)))⟩
  .done)))
 (.cond (.tmp 8)
 (.seq (.ops [] (.op ⟨(some 6), none, (.p (.val (.con (.int .i64 0))))⟩
  .done))
 .ret)
 .skip))
 (.seq (.ops [] (.op ⟨(some 9), none, (.p (.val (.tmp 0)))⟩
  (.op ⟨(some 10), none, (.p (.nilchk (.tmp 9)))⟩
  (.op ⟨(some 11), none, (.p (.faddr 0 (.tmp 10)))⟩
  (.op ⟨(some 12), none, (.p (.loadi false 1 (.tmp 11)))⟩
  (.op ⟨(some 13), none, (.p (.val (.tmp 1)))⟩
  (.op ⟨(some 14), none, (.p (.val (.tmp 2)))⟩
  (.op ⟨(some 15), none, (.p (.build [(.str []), (.str [])] [(0, 1, (.tmp 13)), (1, 1, (.tmp 14))]))⟩
  (.op ⟨(some 16), none, (.mapget (.all [.s, .s]) false (.int .i64 0) (.tmp 12) (.tmp 15))⟩
  (.op ⟨(some 6), none, (.p (.val (.tmp 16)))⟩
  .done))))))))))
 .ret)))⟩
theorem i14_is : compFunc Tryd.prog ⟨[], [], [0, 7, 9, 10, 11]⟩ [] 14 = some i14 := by kernel_rfl

/-- (*baton/fence.State).Find -/
def i15 : IFn := ⟨3, 20, [.tmp 6],
 (.seq (.ops [] (.op ⟨(some 6), none, (.p (.val (.con (.slice true 2 [] .full))))⟩
  .done))
 (.seq (.seq (.ops [] (.op ⟨(some 7), none, (.p (.val (.tmp 0)))⟩
  (.op ⟨(some 8), none, (.p (.eqn .p false (.tmp 7) (.con .nilptr)))⟩
  .done)))
 (.cond (.tmp 8)
 (.seq (.ops [] (.op ⟨(some 6), none, (.p (.val (.con (.slice true 2 [] .full))))⟩
  .done))
 .ret)
 .skip))
 (.seq (.ops [] (.op ⟨(some 9), none, (.p (.val (.tmp 0)))⟩
  (.op ⟨(some 10), none, (.p (.nilchk (.tmp 9)))⟩
  (.op ⟨(some 11), none, (.p (.faddr 1 (.tmp 10)))⟩
  (.op ⟨(some 12), none, (.p (.loadi false 1 (.tmp 11)))⟩
  (.op ⟨(some 13), none, (.p (.val (.tmp 1)))⟩
  (.op ⟨(some 14), none, (.p (.val (.tmp 2)))⟩
  (.op ⟨(some 15), none, (.call 30 [(.tmp 14)])⟩
  (.op ⟨(some 16), none, (.p (.build [(.str []), (.str [])] [(0, 1, (.tmp 13)), (1, 1, (.tmp 15))]))⟩
  (.op ⟨(some 17), none, (.mapget (.all [.s, .s]) false (.agg [(.slice true 2 [] .full), (.slice true 2 [] .full)]) (.tmp 12) (.tmp 16))⟩
  (.op ⟨(some 18), none, (.p (.fld false 1 1 (.tmp 17)))⟩
  (.op ⟨(some 19), none, (.call 31 [(.tmp 18)])⟩
  (.op ⟨(some 6), none, (.p (.val (.tmp 19)))⟩
  .done)))))))))))))
 .ret)))⟩
theorem i15_is : compFunc Tryd.prog ⟨[], [], [0, 7, 9, 10, 11]⟩ [] 15 = some i15 := by kernel_rfl

/-- (*baton/fence.State).Copy -/
def i16 : IFn := ⟨1, 17, [.tmp 2],
 (.seq (.ops [] (.op ⟨(some 2), none, (.p (.val (.con .nilptr)))⟩
  .done))
 (.seq (.seq (.ops [] (.op ⟨(some 3), none, (.p (.val (.tmp 0)))⟩
  (.op ⟨(some 4), none, (.p (.eqn .p false (.tmp 3) (.con .nilptr)))⟩
  .done)))
 (.cond (.tmp 4)
 (.seq (.ops [] (.op ⟨(some 2), none, (.p (.val (.con .nilptr)))⟩
  .done))
 .ret)
 .skip))
 (.seq (.ops [] (.op ⟨(some 5), none, (.p (.val (.tmp 0)))⟩
  (.op ⟨(some 6), none, (.p (.nilchk (.tmp 5)))⟩
  (.op ⟨(some 7), none, (.p (.faddr 0 (.tmp 6)))⟩
  (.op ⟨(some 8), none, (.p (.loadi false 1 (.tmp 7)))⟩
  (.op ⟨(some 10), none, (.p (.val (.tmp 0)))⟩
  (.op ⟨(some 11), none, (.p (.nilchk (.tmp 10)))⟩
  (.op ⟨(some 12), none, (.p (.faddr 1 (.tmp 11)))⟩
  (.op ⟨(some 13), none, (.p (.loadi false 1 (.tmp 12)))⟩
  (.op ⟨(some 9), none, (.call 36 [(.tmp 8)])⟩
  (.op ⟨(some 14), none, (.call 37 [(.tmp 13)])⟩
  (.op ⟨(some 15), none, (.p (.build [.nilmap, .nilmap] [(0, 1, (.tmp 9)), (1, 1, (.tmp 14))]))⟩
  (.op ⟨(some 16), none, (.p (.boxi (.tmp 15)))⟩
  (.op ⟨(some 2), none, (.p (.val (.tmp 16)))⟩
  .done))))))))))))))
 .ret)))⟩
theorem i16_is : compFunc Tryd.prog ⟨[], [16], [16, 0, 3, 5, 10, 6, 11, 7, 12]⟩ [] 16 = some i16 := by kernel_rfl

/-- baton/batonlaw23.large -/
def i17 : IFn := ⟨1, 67, [.tmp 2],
 (.seq (.ops [] (.op ⟨(some 2), none, (.p (.val (.con (.int .i64 0))))⟩
  .done))
 (.seq (.ops [] (.op ⟨(some 3), none, (.p (.val (.con (.int .i64 0))))⟩
  .done))
 (.seq (.seq (.ops [] (.op ⟨(some 4), none, (.p (.val (.con (.int .i64 0))))⟩
  .done))
 (.block 0 (.loop (.seq (.seq (.ops [] (.op ⟨(some 6), none, (.p (.val (.tmp 4)))⟩
  (.op ⟨(some 7), none, (.p (.val (.tmp 0)))⟩
  (.op ⟨(some 8), none, (.p (.lenl (.tmp 7)))⟩
  (.op ⟨(some 9), none, (.p (.bin .lss (.tmp 6) (.tmp 8)))⟩
  (.op ⟨(some 10), none, (.p (.val (.tmp 9)))⟩
  (.op ⟨(some 11), (some (10, true)), (.p (.val (.tmp 3)))⟩
  (.op ⟨(some 12), (some (10, true)), (.p (.bin .lss (.tmp 11) (.con (.int .i64 6000))))⟩
  (.op ⟨(some 13), none, (.p (.pick (.tmp 10) (.tmp 12) (.con (.bool false))))⟩
  .done)))))))))
 (.cond (.tmp 13)
 .skip
 (.exit 0)))
 (.seq (.block 1 (.seq (.ops [] (.op ⟨(some 16), none, (.p (.val (.tmp 3)))⟩
  (.op ⟨(some 17), none, (.p (.bin .add (.tmp 16) (.con (.int .i64 5))))⟩
  (.op ⟨(some 18), none, (.p (.val (.tmp 0)))⟩
  (.op ⟨(some 19), none, (.p (.val (.tmp 4)))⟩
  (.op ⟨(some 20), none, (.p (.iaddr 2 (.tmp 18) (.tmp 19)))⟩
  (.op ⟨(some 21), none, (.p (.faddr 1 (.tmp 20)))⟩
  (.op ⟨(some 22), none, (.p (.loadi false 1 (.tmp 21)))⟩
  (.op ⟨(some 23), none, (.p (.lenl (.tmp 22)))⟩
  (.op ⟨(some 24), none, (.p (.min2 false (.con (.int .i64 6000)) (.tmp 23)))⟩
  (.op ⟨(some 25), none, (.p (.bin .add (.tmp 17) (.tmp 24)))⟩
  (.op ⟨(some 3), none, (.p (.val (.tmp 25)))⟩
  .done))))))))))))
 (.seq (.ops [] (.op ⟨(some 5), none, (.p (.val (.con (.int .i64 0))))⟩
  .done))
 (.block 2 (.loop (.seq (.seq (.ops [] (.op ⟨(some 26), none, (.p (.val (.tmp 5)))⟩
  (.op ⟨(some 27), none, (.p (.val (.tmp 0)))⟩
  (.op ⟨(some 28), none, (.p (.val (.tmp 4)))⟩
  (.op ⟨(some 29), none, (.p (.iaddr 2 (.tmp 27) (.tmp 28)))⟩
  (.op ⟨(some 30), none, (.p (.faddr 0 (.tmp 29)))⟩
  (.op ⟨(some 31), none, (.p (.loadi false 1 (.tmp 30)))⟩
  (.op ⟨(some 32), none, (.p (.lenl (.tmp 31)))⟩
  (.op ⟨(some 33), none, (.p (.bin .lss (.tmp 26) (.tmp 32)))⟩
  (.op ⟨(some 34), none, (.p (.val (.tmp 33)))⟩
  (.op ⟨(some 35), (some (34, true)), (.p (.val (.tmp 3)))⟩
  (.op ⟨(some 36), (some (34, true)), (.p (.bin .lss (.tmp 35) (.con (.int .i64 6000))))⟩
  (.op ⟨(some 37), none, (.p (.pick (.tmp 34) (.tmp 36) (.con (.bool false))))⟩
  .done)))))))))))))
 (.cond (.tmp 37)
 .skip
 (.exit 2)))
 (.seq (.block 3 (.ops [] (.op ⟨(some 40), none, (.p (.val (.tmp 3)))⟩
  (.op ⟨(some 41), none, (.p (.bin .add (.tmp 40) (.con (.int .i64 5))))⟩
  (.op ⟨(some 42), none, (.p (.val (.tmp 0)))⟩
  (.op ⟨(some 43), none, (.p (.val (.tmp 4)))⟩
  (.op ⟨(some 44), none, (.p (.iaddr 2 (.tmp 42) (.tmp 43)))⟩
  (.op ⟨(some 45), none, (.p (.faddr 0 (.tmp 44)))⟩
  (.op ⟨(some 46), none, (.p (.loadi false 1 (.tmp 45)))⟩
  (.op ⟨(some 47), none, (.p (.val (.tmp 5)))⟩
  (.op ⟨(some 48), none, (.p (.iaddr 2 (.tmp 46) (.tmp 47)))⟩
  (.op ⟨(some 49), none, (.p (.faddr 0 (.tmp 48)))⟩
  (.op ⟨(some 50), none, (.p (.loadi false 1 (.tmp 49)))⟩
  (.op ⟨(some 51), none, (.p (.lens (.tmp 50)))⟩
  (.op ⟨(some 52), none, (.p (.min2 false (.con (.int .i64 6000)) (.tmp 51)))⟩
  (.op ⟨(some 53), none, (.p (.bin .add (.tmp 41) (.tmp 52)))⟩
  (.op ⟨(some 54), none, (.p (.val (.tmp 0)))⟩
  (.op ⟨(some 55), none, (.p (.val (.tmp 4)))⟩
  (.op ⟨(some 56), none, (.p (.iaddr 2 (.tmp 54) (.tmp 55)))⟩
  (.op ⟨(some 57), none, (.p (.faddr 0 (.tmp 56)))⟩
  (.op ⟨(some 58), none, (.p (.loadi false 1 (.tmp 57)))⟩
  (.op ⟨(some 59), none, (.p (.val (.tmp 5)))⟩
  (.op ⟨(some 60), none, (.p (.iaddr 2 (.tmp 58) (.tmp 59)))⟩
  (.op ⟨(some 61), none, (.p (.faddr 1 (.tmp 60)))⟩
  (.op ⟨(some 62), none, (.p (.loadi false 1 (.tmp 61)))⟩
  (.op ⟨(some 63), none, (.p (.lens (.tmp 62)))⟩
  (.op ⟨(some 64), none, (.p (.min2 false (.con (.int .i64 6000)) (.tmp 63)))⟩
  (.op ⟨(some 65), none, (.p (.bin .add (.tmp 53) (.tmp 64)))⟩
  (.op ⟨(some 3), none, (.p (.val (.tmp 65)))⟩
  .done)))))))))))))))))))))))))))))
 (.ops [] (.op ⟨(some 38), none, (.p (.val (.tmp 5)))⟩
  (.op ⟨(some 39), none, (.p (.bin .add (.tmp 38) (.con (.int .i64 1))))⟩
  (.op ⟨(some 5), none, (.p (.val (.tmp 39)))⟩
  .done)))))))))))
 (.ops [] (.op ⟨(some 14), none, (.p (.val (.tmp 4)))⟩
  (.op ⟨(some 15), none, (.p (.bin .add (.tmp 14) (.con (.int .i64 1))))⟩
  (.op ⟨(some 4), none, (.p (.val (.tmp 15)))⟩
  .done)))))))))
 (.seq (.ops [] (.op ⟨(some 66), none, (.p (.val (.tmp 3)))⟩
  (.op ⟨(some 2), none, (.p (.val (.tmp 66)))⟩
  .done)))
 .ret))))⟩
theorem i17_is : compFunc Tryd.prog ⟨[], [], [20, 29, 44, 48, 56, 60, 21, 30, 45, 49, 57, 61]⟩ [] 17 = some i17 := by kernel_rfl

/-- baton/batonlaw23.batch -/
def i18 : IFn := ⟨3, 15, [.cell 6 true 4],
 (.seq (.ops [] (.op ⟨(some 6), none, (.alloc [(.str []), (.str []), (.int .i64 0), (.slice true 2 [] .full)])⟩
  .done))
 (.seq (.ops [] (.op ⟨(some 7), none, (.p (.val (.tmp 0)))⟩
  (.op ⟨(some 8), none, (.p (.val (.tmp 1)))⟩
  (.op ⟨(some 9), none, (.p (.build [(.str []), (.str [])] [(0, 1, (.con (.str [97]))), (1, 1, (.con (.str [98])))]))⟩
  (.op ⟨(some 10), none, (.p (.mks 2 [(.tmp 9)]))⟩
  (.op ⟨(some 11), none, (.p (.val (.tmp 2)))⟩
  (.op ⟨(some 12), none, (.p (.build [(.slice true 2 [] .full), (.slice true 2 [] .full)] [(0, 1, (.tmp 10)), (1, 1, (.tmp 11))]))⟩
  (.op ⟨(some 13), none, (.p (.mks 2 [(.tmp 12)]))⟩
  (.op ⟨(some 14), none, (.p (.build [(.str []), (.str []), (.int .i64 0), (.slice true 2 [] .full)] [(0, 1, (.con (.str [116]))), (1, 1, (.tmp 7)), (2, 1, (.tmp 8)), (3, 1, (.tmp 13))]))⟩
  (.op ⟨none, none, (.store 4 (.tmp 6) (.tmp 14))⟩
  .done))))))))))
 .ret))⟩
theorem i18_is : compFunc Tryd.prog ⟨[], [], []⟩ [] 18 = some i18 := by kernel_rfl

/-- baton/rpc.MayBatch -/
def i19 : IFn := ⟨1, 41, [.tmp 2],
 (.seq (.ops [] (.op ⟨(some 1), none, (.p (.boxi (.tmp 0)))⟩
  (.op ⟨(some 2), none, (.p (.val (.con (.bool false))))⟩
  .done)))
 (.seq (.ops [] (.op ⟨(some 5), none, (.p (.faddr 1 (.tmp 1)))⟩
  (.op ⟨(some 6), none, (.p (.loadi false 1 (.tmp 5)))⟩
  (.op ⟨(some 7), none, (.call 38 [(.tmp 6)])⟩
  (.op ⟨(some 8), none, (.p (.val (.tmp 7)))⟩
  (.op ⟨(some 9), (some (8, true)), (.p (.faddr 2 (.tmp 1)))⟩
  (.op ⟨(some 10), (some (8, true)), (.p (.loadi false 1 (.tmp 9)))⟩
  (.op ⟨(some 11), (some (8, true)), (.p (.bin .geq (.tmp 10) (.con (.int .i64 1))))⟩
  (.op ⟨(some 12), none, (.p (.pick (.tmp 8) (.tmp 11) (.con (.bool false))))⟩
  (.op ⟨(some 13), none, (.p (.val (.tmp 12)))⟩
  (.op ⟨(some 14), (some (13, true)), (.p (.faddr 2 (.tmp 1)))⟩
  (.op ⟨(some 15), (some (13, true)), (.p (.loadi false 1 (.tmp 14)))⟩
  (.op ⟨(some 16), (some (13, true)), (.p (.bin .leq (.tmp 15) (.con (.int .i64 1099511627776))))⟩
  (.op ⟨(some 17), none, (.p (.pick (.tmp 13) (.tmp 16) (.con (.bool false))))⟩
  (.op ⟨(some 3), none, (.p (.val (.tmp 17)))⟩
  .done)))))))))))))))
 (.seq (.seq (.ops [] (.op ⟨(some 18), none, (.p (.faddr 0 (.tmp 1)))⟩
  (.op ⟨(some 19), none, (.p (.loadi false 1 (.tmp 18)))⟩
  (.op ⟨(some 20), none, (.call 38 [(.tmp 19)])⟩
  (.op ⟨(some 21), none, (.p (.un .not (.tmp 20)))⟩
  (.op ⟨(some 22), none, (.p (.val (.tmp 21)))⟩
  (.op ⟨(some 23), (some (22, false)), (.p (.val (.tmp 3)))⟩
  (.op ⟨(some 24), (some (22, false)), (.p (.un .not (.tmp 23)))⟩
  (.op ⟨(some 25), (some (22, false)), (.p (.val (.tmp 24)))⟩
  (.op ⟨(some 26), (some (25, true)), (.p (.faddr 1 (.tmp 1)))⟩
  (.op ⟨(some 27), (some (25, true)), (.p (.loadi false 1 (.tmp 26)))⟩
  (.op ⟨(some 28), (some (25, true)), (.p (.bin .neq (.tmp 27) (.con (.str []))))⟩
  (.op ⟨(some 29), (some (25, true)), (.p (.val (.tmp 28)))⟩
  (.op ⟨(some 30), (some (29, false)), (.p (.faddr 2 (.tmp 1)))⟩
  (.op ⟨(some 31), (some (29, false)), (.p (.loadi false 1 (.tmp 30)))⟩
  (.op ⟨(some 32), (some (29, false)), (.p (.bin .neq (.tmp 31) (.con (.int .i64 0))))⟩
  (.op ⟨(some 33), (some (25, true)), (.p (.pick (.tmp 29) (.con (.bool true)) (.tmp 32)))⟩
  (.op ⟨(some 34), (some (22, false)), (.p (.pick (.tmp 25) (.tmp 33) (.con (.bool false))))⟩
  (.op ⟨(some 35), none, (.p (.pick (.tmp 22) (.con (.bool true)) (.tmp 34)))⟩
  .done)))))))))))))))))))
 (.cond (.tmp 35)
 (.seq (.ops [] (.op ⟨(some 2), none, (.p (.val (.con (.bool false))))⟩
  .done))
 .ret)
 .skip))
 (.seq (.ops [] (.op ⟨(some 4), none, (.alloc [.nilFunc])⟩
  (.op ⟨none, none, (.store 1 (.tmp 4) (.con (.func (.func 39) [] [])))⟩
  .done)))
 (.seq (.ops [] (.op ⟨(some 36), none, (.p (.faddr 3 (.tmp 1)))⟩
  (.op ⟨(some 37), none, (.p (.loadi false 1 (.tmp 36)))⟩
  (.op ⟨(some 38), none, (.p (.mkf (.func 41) [] [(.tmp 4)]))⟩
  (.op ⟨(some 39), none, (.call 40 [(.tmp 37), (.tmp 38)])⟩
  (.op ⟨(some 40), none, (.p (.un .not (.tmp 39)))⟩
  (.op ⟨(some 2), none, (.p (.val (.tmp 40)))⟩
  .done)))))))
 .ret)))))⟩
theorem i19_is : compFunc Tryd.prog ⟨[], [1], [1, 5, 9, 14, 18, 26, 30, 36]⟩ [] 19 = some i19 := by kernel_rfl

/-- (*baton/fence.State).put -/
def i20 : IFn := ⟨3, 76, [.tmp 6, .tmp 7],
 (.seq (.ops [] (.op ⟨(some 5), none, (.p (.boxi (.tmp 2)))⟩
  (.op ⟨(some 6), none, (.p (.val (.con (.slice true 2 [] .full))))⟩
  (.op ⟨(some 7), none, (.p (.val (.con (.int .i64 0))))⟩
  .done))))
 (.seq (.ops [] (.op ⟨(some 17), none, (.p (.val (.tmp 1)))⟩
  (.op ⟨(some 18), none, (.p (.faddr 0 (.tmp 5)))⟩
  (.op ⟨(some 19), none, (.p (.loadi false 1 (.tmp 18)))⟩
  (.op ⟨(some 20), none, (.call 30 [(.tmp 19)])⟩
  (.op ⟨(some 21), none, (.p (.build [(.str []), (.str [])] [(0, 1, (.tmp 17)), (1, 1, (.tmp 20))]))⟩
  (.op ⟨(some 8), none, (.alloc [(.str []), (.str [])])⟩
  (.op ⟨(some 8), none, (.storef 8 2 (.tmp 21))⟩
  .done))))))))
 (.seq (.ops [] (.op ⟨(some 22), none, (.p (.val (.tmp 0)))⟩
  (.op ⟨(some 23), none, (.p (.nilchk (.tmp 22)))⟩
  (.op ⟨(some 24), none, (.p (.faddr 1 (.tmp 23)))⟩
  (.op ⟨(some 25), none, (.p (.loadi false 1 (.tmp 24)))⟩
  (.op ⟨(some 26), none, (.p (.loadi true 2 (.tmp 8)))⟩
  (.op ⟨(some 27), none, (.mapget (.all [.s, .s]) false (.agg [(.slice true 2 [] .full), (.slice true 2 [] .full)]) (.tmp 25) (.tmp 26))⟩
  (.op ⟨(some 9), none, (.alloc [(.slice true 2 [] .full), (.slice true 2 [] .full)])⟩
  (.op ⟨(some 9), none, (.storef 9 2 (.tmp 27))⟩
  .done)))))))))
 (.seq (.ops [] (.op ⟨(some 29), none, (.p (.faddr 1 (.tmp 9)))⟩
  (.op ⟨(some 30), none, (.p (.loadi false 1 (.tmp 29)))⟩
  (.op ⟨(some 31), none, (.p (.faddr 1 (.tmp 5)))⟩
  (.op ⟨(some 32), none, (.p (.loadi false 1 (.tmp 31)))⟩
  (.op ⟨(some 33), none, (.call 44 [(.tmp 30), (.tmp 32)])⟩
  (.op ⟨(some 28), none, (.p (.val (.tmp 33)))⟩
  (.op ⟨(some 34), none, (.p (.ext 0 (.tmp 28)))⟩
  (.op ⟨(some 35), none, (.p (.ext 1 (.tmp 28)))⟩
  (.op ⟨(some 36), none, (.p (.ext 2 (.tmp 28)))⟩
  (.op ⟨(some 10), none, (.p (.val (.tmp 34)))⟩
  (.op ⟨(some 11), none, (.p (.val (.tmp 35)))⟩
  (.op ⟨(some 12), none, (.p (.val (.tmp 36)))⟩
  .done)))))))))))))
 (.seq (.ops [] (.op ⟨(some 13), none, (.p (.val (.con (.slice true 2 [] .full))))⟩
  .done))
 (.seq (.ops [] (.op ⟨(some 14), none, (.p (.val (.con (.int .i64 0))))⟩
  .done))
 (.seq (.seq (.ops [] (.op ⟨(some 37), none, (.p (.val (.tmp 11)))⟩
  (.op ⟨(some 38), none, (.p (.lenl (.tmp 37)))⟩
  (.op ⟨(some 39), none, (.p (.val (.con (.int .i64 0))))⟩
  .done))))
 (.block 0 (.loop (.seq (.ops [] (.op ⟨(some 40), none, (.p (.bin .lss (.tmp 39) (.tmp 38)))⟩
  .done))
 (.seq (.cond (.tmp 40)
 .skip
 (.exit 0))
 (.seq (.block 1 (.seq (.ops [] (.op ⟨(some 41), none, (.p (.val (.tmp 39)))⟩
  (.op ⟨(some 42), none, (.p (.iaddr 1 (.tmp 37) (.tmp 39)))⟩
  (.op ⟨(some 43), none, (.p (.loadi false 1 (.tmp 42)))⟩
  (.op ⟨(some 15), none, (.p (.val (.tmp 41)))⟩
  (.op ⟨(some 16), none, (.p (.val (.tmp 43)))⟩
  .done))))))
 (.block 2 (.seq (.ops [] (.op ⟨(some 45), none, (.p (.val (.tmp 16)))⟩
  (.op ⟨(some 46), none, (.p (.bin .eql (.tmp 45) (.con (.int .u8 1))))⟩
  (.op ⟨(some 44), none, (.p (.val (.tmp 46)))⟩
  .done))))
 (.cond (.tmp 44)
 (.ops [] (.op ⟨(some 47), none, (.p (.val (.tmp 13)))⟩
  (.op ⟨(some 48), none, (.p (.faddr 1 (.tmp 5)))⟩
  (.op ⟨(some 49), none, (.p (.loadi false 1 (.tmp 48)))⟩
  (.op ⟨(some 50), none, (.p (.val (.tmp 15)))⟩
  (.op ⟨(some 51), none, (.p (.iaddr 2 (.tmp 49) (.tmp 50)))⟩
  (.op ⟨(some 52), none, (.p (.loadi true 2 (.tmp 51)))⟩
  (.op ⟨(some 53), none, (.p (.mks 2 [(.tmp 52)]))⟩
  (.op ⟨(some 54), none, (.append 2 16 (.tmp 47) (.tmp 53))⟩
  (.op ⟨(some 13), none, (.p (.val (.tmp 54)))⟩
  .done))))))))))
 (.seq (.ops [] (.op ⟨(some 56), none, (.p (.val (.tmp 16)))⟩
  (.op ⟨(some 57), none, (.call 45 [(.tmp 56)])⟩
  (.op ⟨(some 55), none, (.p (.val (.tmp 57)))⟩
  .done))))
 (.cond (.tmp 55)
 (.ops [] (.op ⟨(some 58), none, (.p (.val (.tmp 14)))⟩
  (.op ⟨(some 59), none, (.p (.bin .add (.tmp 58) (.con (.int .i64 1))))⟩
  (.op ⟨(some 14), none, (.p (.val (.tmp 59)))⟩
  .done))))
 .skip)))))))
 (.ops [] (.op ⟨(some 60), none, (.p (.bin .add (.tmp 39) (.con (.int .i64 1))))⟩
  (.op ⟨(some 39), none, (.p (.val (.tmp 60)))⟩
  .done)))))))))
 (.seq (.seq (.ops [] (.op ⟨(some 61), none, (.p (.val (.tmp 13)))⟩
  (.op ⟨(some 62), none, (.p (.lenl (.tmp 61)))⟩
  (.op ⟨(some 63), none, (.p (.bin .gtr (.tmp 62) (.con (.int .i64 0))))⟩
  .done))))
 (.cond (.tmp 63)
 (.ops [] (.op ⟨(some 64), none, (.p (.val (.tmp 0)))⟩
  (.op ⟨(some 65), none, (.p (.nilchk (.tmp 64)))⟩
  (.op ⟨(some 66), none, (.p (.faddr 1 (.tmp 65)))⟩
  (.op ⟨(some 67), none, (.p (.loadi false 1 (.tmp 66)))⟩
  (.op ⟨(some 68), none, (.p (.loadi true 2 (.tmp 8)))⟩
  (.op ⟨(some 69), none, (.p (.faddr 0 (.tmp 5)))⟩
  (.op ⟨(some 70), none, (.p (.loadi false 1 (.tmp 69)))⟩
  (.op ⟨(some 72), none, (.p (.val (.tmp 10)))⟩
  (.op ⟨(some 71), none, (.call 21 [(.tmp 70)])⟩
  (.op ⟨(some 73), none, (.p (.build [(.slice true 2 [] .full), (.slice true 2 [] .full)] [(0, 1, (.tmp 71)), (1, 1, (.tmp 72))]))⟩
  (.op ⟨none, none, (.mapset (.all [.s, .s]) (.tmp 67) (.tmp 68) (.tmp 73))⟩
  .done))))))))))))
 .skip))
 (.seq (.ops [] (.op ⟨(some 74), none, (.p (.val (.tmp 13)))⟩
  (.op ⟨(some 75), none, (.p (.val (.tmp 14)))⟩
  (.op ⟨(some 6), none, (.p (.val (.tmp 74)))⟩
  (.op ⟨(some 7), none, (.p (.val (.tmp 75)))⟩
  .done)))))
 .ret)))))))))⟩
theorem i20_is : compFunc Tryd.prog ⟨[8, 9], [5], [8, 9, 5, 0, 18, 22, 29, 31, 42, 48, 51, 64, 69, 23, 65, 24, 66]⟩ [] 20 = some i20 := by kernel_rfl

/-- slices.Clone[[]baton/api.Label,baton/api.Label] -/
def i21 : IFn := ⟨1, 8, [.tmp 2],
 (.seq (.ops [] (.op ⟨(some 2), none, (.p (.val (.con (.slice true 2 [] .full))))⟩
  .done))
 (.seq (.seq (.ops [] (.op ⟨(some 3), none, (.p (.val (.tmp 0)))⟩
  (.op ⟨(some 4), none, (.p (.eqn .s false (.tmp 3) (.con (.slice true 2 [] .full))))⟩
  .done)))
 (.cond (.tmp 4)
 (.seq (.ops [] (.op ⟨(some 2), none, (.p (.val (.con (.slice true 2 [] .full))))⟩
  .done))
 .ret)
 .skip))
 (.seq (.ops [] (.op ⟨(some 5), none, (.p (.mks 2 []))⟩
  (.op ⟨(some 6), none, (.p (.val (.tmp 0)))⟩
  (.op ⟨(some 7), none, (.append 2 32 (.tmp 5) (.tmp 6))⟩
  (.op ⟨(some 2), none, (.p (.val (.tmp 7)))⟩
  .done)))))
 .ret)))⟩
theorem i21_is : compFunc Tryd.prog ⟨[], [], []⟩ [] 21 = some i21 := by kernel_rfl

/-- baton/batonref06.Same -/
def i22 : IFn := ⟨2, 27, [.tmp 4],
 (.seq (.ops [] (.op ⟨(some 4), none, (.p (.val (.con (.bool false))))⟩
  .done))
 (.seq (.seq (.ops [] (.op ⟨(some 6), none, (.p (.val (.tmp 0)))⟩
  (.op ⟨(some 7), none, (.p (.lenl (.tmp 6)))⟩
  (.op ⟨(some 8), none, (.p (.val (.tmp 1)))⟩
  (.op ⟨(some 9), none, (.p (.lenl (.tmp 8)))⟩
  (.op ⟨(some 10), none, (.p (.bin .neq (.tmp 7) (.tmp 9)))⟩
  .done))))))
 (.cond (.tmp 10)
 (.seq (.ops [] (.op ⟨(some 4), none, (.p (.val (.con (.bool false))))⟩
  .done))
 .ret)
 .skip))
 (.seq (.seq (.ops [] (.op ⟨(some 5), none, (.p (.val (.con (.int .i64 0))))⟩
  .done))
 (.block 0 (.loop (.seq (.seq (.ops [] (.op ⟨(some 11), none, (.p (.val (.tmp 5)))⟩
  (.op ⟨(some 12), none, (.p (.val (.tmp 0)))⟩
  (.op ⟨(some 13), none, (.p (.lenl (.tmp 12)))⟩
  (.op ⟨(some 14), none, (.p (.bin .lss (.tmp 11) (.tmp 13)))⟩
  .done)))))
 (.cond (.tmp 14)
 .skip
 (.exit 0)))
 (.seq (.block 1 (.seq (.ops [] (.op ⟨(some 17), none, (.p (.val (.tmp 0)))⟩
  (.op ⟨(some 18), none, (.p (.val (.tmp 5)))⟩
  (.op ⟨(some 19), none, (.p (.iaddr 2 (.tmp 17) (.tmp 18)))⟩
  (.op ⟨(some 20), none, (.p (.loadi true 2 (.tmp 19)))⟩
  (.op ⟨(some 21), none, (.p (.val (.tmp 1)))⟩
  (.op ⟨(some 22), none, (.p (.val (.tmp 5)))⟩
  (.op ⟨(some 23), none, (.p (.iaddr 2 (.tmp 21) (.tmp 22)))⟩
  (.op ⟨(some 24), none, (.p (.loadi true 2 (.tmp 23)))⟩
  (.op ⟨(some 25), none, (.call 46 [(.tmp 20), (.tmp 24)])⟩
  (.op ⟨(some 26), none, (.p (.un .not (.tmp 25)))⟩
  .done)))))))))))
 (.cond (.tmp 26)
 (.seq (.ops [] (.op ⟨(some 4), none, (.p (.val (.con (.bool false))))⟩
  .done))
 .ret)
 .skip)))
 (.ops [] (.op ⟨(some 15), none, (.p (.val (.tmp 5)))⟩
  (.op ⟨(some 16), none, (.p (.bin .add (.tmp 15) (.con (.int .i64 1))))⟩
  (.op ⟨(some 5), none, (.p (.val (.tmp 16)))⟩
  .done)))))))))
 (.seq (.ops [] (.op ⟨(some 4), none, (.p (.val (.con (.bool true))))⟩
  .done))
 .ret))))⟩
theorem i22_is : compFunc Tryd.prog ⟨[], [], [19, 23]⟩ [] 22 = some i22 := by kernel_rfl

/-- maps.Equal[map[baton/fence.place]int64,map[baton/fence.place]int64,baton/fence.place,int64] -/
def i23 : IFn := ⟨2, 34, [.tmp 4],
 (.seq (.ops [] (.op ⟨(some 4), none, (.p (.val (.con (.bool false))))⟩
  .done))
 (.seq (.seq (.ops [] (.op ⟨(some 9), none, (.p (.val (.tmp 0)))⟩
  (.op ⟨(some 10), none, (.maplen (.tmp 9))⟩
  (.op ⟨(some 11), none, (.p (.val (.tmp 1)))⟩
  (.op ⟨(some 12), none, (.maplen (.tmp 11))⟩
  (.op ⟨(some 13), none, (.p (.bin .neq (.tmp 10) (.tmp 12)))⟩
  .done))))))
 (.cond (.tmp 13)
 (.seq (.ops [] (.op ⟨(some 4), none, (.p (.val (.con (.bool false))))⟩
  .done))
 .ret)
 .skip))
 (.seq (.seq (.ops [] (.op ⟨(some 14), none, (.p (.val (.tmp 0)))⟩
  (.op ⟨(some 15), none, (.mrng (.tmp 14))⟩
  .done)))
 (.block 0 (.loop (.seq (.ops [] (.op ⟨(some 16), none, (.mnxt (.tmp 15))⟩
  (.op ⟨(some 17), none, (.p (.ext 0 (.tmp 16)))⟩
  .done)))
 (.seq (.cond (.tmp 17)
 .skip
 (.exit 0))
 (.block 1 (.seq (.ops [] (.op ⟨(some 18), none, (.mentry (.tmp 15))⟩
  (.op ⟨(some 19), none, (.p (.ext 0 (.tmp 18)))⟩
  (.op ⟨(some 20), none, (.p (.ext 1 (.tmp 18)))⟩
  (.op ⟨(some 5), none, (.alloc [(.str []), (.str [])])⟩
  (.op ⟨(some 5), none, (.storef 5 2 (.tmp 19))⟩
  (.op ⟨(some 6), none, (.p (.val (.tmp 20)))⟩
  .done)))))))
 (.seq (.ops [] (.op ⟨(some 22), none, (.p (.val (.tmp 1)))⟩
  (.op ⟨(some 23), none, (.p (.loadi true 2 (.tmp 5)))⟩
  (.op ⟨(some 24), none, (.mapget (.all [.s, .s]) true (.int .i64 0) (.tmp 22) (.tmp 23))⟩
  (.op ⟨(some 21), none, (.p (.val (.tmp 24)))⟩
  (.op ⟨(some 25), none, (.p (.ext 0 (.tmp 21)))⟩
  (.op ⟨(some 26), none, (.p (.ext 1 (.tmp 21)))⟩
  (.op ⟨(some 7), none, (.p (.val (.tmp 25)))⟩
  (.op ⟨(some 8), none, (.p (.val (.tmp 26)))⟩
  .done)))))))))
 (.seq (.ops [] (.op ⟨(some 27), none, (.p (.val (.tmp 8)))⟩
  (.op ⟨(some 28), none, (.p (.un .not (.tmp 27)))⟩
  (.op ⟨(some 29), none, (.p (.val (.tmp 28)))⟩
  (.op ⟨(some 30), (some (29, false)), (.p (.val (.tmp 6)))⟩
  (.op ⟨(some 31), (some (29, false)), (.p (.val (.tmp 7)))⟩
  (.op ⟨(some 32), (some (29, false)), (.p (.bin .neq (.tmp 30) (.tmp 31)))⟩
  (.op ⟨(some 33), none, (.p (.pick (.tmp 29) (.con (.bool true)) (.tmp 32)))⟩
  .done))))))))
 (.cond (.tmp 33)
 (.seq (.ops [] (.op ⟨(some 4), none, (.p (.val (.con (.bool false))))⟩
  .done))
 .ret)
 .skip))))))))))
 (.seq (.ops [] (.op ⟨(some 4), none, (.p (.val (.con (.bool true))))⟩
  .done))
 .ret))))⟩
theorem i23_is : compFunc Tryd.prog ⟨[5], [], [5]⟩ [] 23 = some i23 := by kernel_rfl

/-- maps.EqualFunc[map[baton/fence.place]baton/fence.own,map[baton/fence.place]baton/fence.own,baton/fence.place,baton/fence.own,baton/fence.own] -/
def i24 : IFn := ⟨3, 38, [.tmp 6],
 (.seq (.ops [] (.op ⟨(some 6), none, (.p (.val (.con (.bool false))))⟩
  .done))
 (.seq (.seq (.ops [] (.op ⟨(some 11), none, (.p (.val (.tmp 0)))⟩
  (.op ⟨(some 12), none, (.maplen (.tmp 11))⟩
  (.op ⟨(some 13), none, (.p (.val (.tmp 1)))⟩
  (.op ⟨(some 14), none, (.maplen (.tmp 13))⟩
  (.op ⟨(some 15), none, (.p (.bin .neq (.tmp 12) (.tmp 14)))⟩
  .done))))))
 (.cond (.tmp 15)
 (.seq (.ops [] (.op ⟨(some 6), none, (.p (.val (.con (.bool false))))⟩
  .done))
 .ret)
 .skip))
 (.seq (.seq (.ops [] (.op ⟨(some 16), none, (.p (.val (.tmp 0)))⟩
  (.op ⟨(some 17), none, (.mrng (.tmp 16))⟩
  .done)))
 (.block 0 (.loop (.seq (.ops [] (.op ⟨(some 18), none, (.mnxt (.tmp 17))⟩
  (.op ⟨(some 19), none, (.p (.ext 0 (.tmp 18)))⟩
  .done)))
 (.seq (.cond (.tmp 19)
 .skip
 (.exit 0))
 (.block 1 (.seq (.ops [] (.op ⟨(some 20), none, (.mentry (.tmp 17))⟩
  (.op ⟨(some 21), none, (.p (.ext 0 (.tmp 20)))⟩
  (.op ⟨(some 22), none, (.p (.ext 1 (.tmp 20)))⟩
  (.op ⟨(some 7), none, (.alloc [(.str []), (.str [])])⟩
  (.op ⟨(some 8), none, (.alloc [(.slice true 2 [] .full), (.slice true 2 [] .full)])⟩
  (.op ⟨(some 7), none, (.storef 7 2 (.tmp 21))⟩
  (.op ⟨(some 8), none, (.storef 8 2 (.tmp 22))⟩
  .done))))))))
 (.seq (.ops [] (.op ⟨(some 24), none, (.p (.val (.tmp 1)))⟩
  (.op ⟨(some 25), none, (.p (.loadi true 2 (.tmp 7)))⟩
  (.op ⟨(some 26), none, (.mapget (.all [.s, .s]) true (.agg [(.slice true 2 [] .full), (.slice true 2 [] .full)]) (.tmp 24) (.tmp 25))⟩
  (.op ⟨(some 23), none, (.p (.val (.tmp 26)))⟩
  (.op ⟨(some 27), none, (.p (.ext 0 (.tmp 23)))⟩
  (.op ⟨(some 28), none, (.p (.ext 1 (.tmp 23)))⟩
  (.op ⟨(some 9), none, (.alloc [(.slice true 2 [] .full), (.slice true 2 [] .full)])⟩
  (.op ⟨(some 9), none, (.storef 9 2 (.tmp 27))⟩
  (.op ⟨(some 10), none, (.p (.val (.tmp 28)))⟩
  .done))))))))))
 (.seq (.ops [] (.op ⟨(some 29), none, (.p (.val (.tmp 10)))⟩
  (.op ⟨(some 30), none, (.p (.un .not (.tmp 29)))⟩
  (.op ⟨(some 31), none, (.p (.val (.tmp 30)))⟩
  (.op ⟨(some 32), (some (31, false)), (.p (.val (.tmp 2)))⟩
  (.op ⟨(some 33), (some (31, false)), (.p (.loadi true 2 (.tmp 8)))⟩
  (.op ⟨(some 34), (some (31, false)), (.p (.loadi true 2 (.tmp 9)))⟩
  (.op ⟨(some 35), (some (31, false)), (.callv (.tmp 32) [(.tmp 33), (.tmp 34)])⟩
  (.op ⟨(some 36), (some (31, false)), (.p (.un .not (.tmp 35)))⟩
  (.op ⟨(some 37), none, (.p (.pick (.tmp 31) (.con (.bool true)) (.tmp 36)))⟩
  .done))))))))))
 (.cond (.tmp 37)
 (.seq (.ops [] (.op ⟨(some 6), none, (.p (.val (.con (.bool false))))⟩
  .done))
 .ret)
 .skip))))))))))
 (.seq (.ops [] (.op ⟨(some 6), none, (.p (.val (.con (.bool true))))⟩
  .done))
 .ret))))⟩
theorem i24_is : compFunc Tryd.prog ⟨[7, 8, 9], [], [7, 8, 9]⟩ [] 24 = some i24 := by kernel_rfl

/-- baton/fence.Same$1 -/
def i25 : IFn := ⟨2, 10, [.tmp 4],
 (.seq (.ops [] (.op ⟨(some 2), none, (.p (.boxi (.tmp 0)))⟩
  (.op ⟨(some 3), none, (.p (.boxi (.tmp 1)))⟩
  (.op ⟨(some 4), none, (.p (.val (.con (.bool false))))⟩
  .done))))
 (.seq (.ops [] (.op ⟨(some 5), none, (.p (.faddr 1 (.tmp 2)))⟩
  (.op ⟨(some 6), none, (.p (.loadi false 1 (.tmp 5)))⟩
  (.op ⟨(some 7), none, (.p (.faddr 1 (.tmp 3)))⟩
  (.op ⟨(some 8), none, (.p (.loadi false 1 (.tmp 7)))⟩
  (.op ⟨(some 9), none, (.call 26 [(.tmp 6), (.tmp 8)])⟩
  (.op ⟨(some 4), none, (.p (.val (.tmp 9)))⟩
  .done)))))))
 .ret))⟩
theorem i25_is : compFunc Tryd.prog ⟨[], [2, 3], [2, 3, 5, 7]⟩ [] 25 = some i25 := by kernel_rfl

/-- slices.Equal[[]baton/api.Sample,baton/api.Sample] -/
def i26 : IFn := ⟨2, 26, [.tmp 4],
 (.seq (.ops [] (.op ⟨(some 4), none, (.p (.val (.con (.bool false))))⟩
  .done))
 (.seq (.seq (.ops [] (.op ⟨(some 6), none, (.p (.val (.tmp 0)))⟩
  (.op ⟨(some 7), none, (.p (.lenl (.tmp 6)))⟩
  (.op ⟨(some 8), none, (.p (.val (.tmp 1)))⟩
  (.op ⟨(some 9), none, (.p (.lenl (.tmp 8)))⟩
  (.op ⟨(some 10), none, (.p (.bin .neq (.tmp 7) (.tmp 9)))⟩
  .done))))))
 (.cond (.tmp 10)
 (.seq (.ops [] (.op ⟨(some 4), none, (.p (.val (.con (.bool false))))⟩
  .done))
 .ret)
 .skip))
 (.seq (.seq (.ops [] (.op ⟨(some 11), none, (.p (.val (.tmp 0)))⟩
  (.op ⟨(some 12), none, (.p (.lenl (.tmp 11)))⟩
  (.op ⟨(some 13), none, (.p (.val (.con (.int .i64 0))))⟩
  .done))))
 (.block 0 (.loop (.seq (.ops [] (.op ⟨(some 14), none, (.p (.bin .lss (.tmp 13) (.tmp 12)))⟩
  .done))
 (.seq (.cond (.tmp 14)
 .skip
 (.exit 0))
 (.seq (.block 1 (.seq (.ops [] (.op ⟨(some 15), none, (.p (.val (.tmp 13)))⟩
  (.op ⟨(some 5), none, (.p (.val (.tmp 15)))⟩
  .done)))
 (.seq (.ops [] (.op ⟨(some 16), none, (.p (.val (.tmp 0)))⟩
  (.op ⟨(some 17), none, (.p (.val (.tmp 5)))⟩
  (.op ⟨(some 18), none, (.p (.iaddr 2 (.tmp 16) (.tmp 17)))⟩
  (.op ⟨(some 19), none, (.p (.loadi true 2 (.tmp 18)))⟩
  (.op ⟨(some 20), none, (.p (.val (.tmp 1)))⟩
  (.op ⟨(some 21), none, (.p (.val (.tmp 5)))⟩
  (.op ⟨(some 22), none, (.p (.iaddr 2 (.tmp 20) (.tmp 21)))⟩
  (.op ⟨(some 23), none, (.p (.loadi true 2 (.tmp 22)))⟩
  (.op ⟨(some 24), none, (.p (.eqd (.all [.i, .i]) true (.tmp 19) (.tmp 23)))⟩
  .done))))))))))
 (.cond (.tmp 24)
 (.seq (.ops [] (.op ⟨(some 4), none, (.p (.val (.con (.bool false))))⟩
  .done))
 .ret)
 .skip))))
 (.ops [] (.op ⟨(some 25), none, (.p (.bin .add (.tmp 13) (.con (.int .i64 1))))⟩
  (.op ⟨(some 13), none, (.p (.val (.tmp 25)))⟩
  .done)))))))))
 (.seq (.ops [] (.op ⟨(some 4), none, (.p (.val (.con (.bool true))))⟩
  .done))
 .ret))))⟩
theorem i26_is : compFunc Tryd.prog ⟨[], [], [18, 22]⟩ [] 26 = some i26 := by kernel_rfl

/-- (baton/fence.Fence).may -/
def i27 : IFn := ⟨1, 21, [.tmp 2],
 (.seq (.ops [] (.op ⟨(some 1), none, (.p (.boxi (.tmp 0)))⟩
  (.op ⟨(some 2), none, (.p (.val (.con (.bool false))))⟩
  .done)))
 (.seq (.ops [] (.op ⟨(some 3), none, (.p (.faddr 0 (.tmp 1)))⟩
  (.op ⟨(some 4), none, (.p (.loadi false 1 (.tmp 3)))⟩
  (.op ⟨(some 5), none, (.call 38 [(.tmp 4)])⟩
  (.op ⟨(some 6), none, (.p (.val (.tmp 5)))⟩
  (.op ⟨(some 7), (some (6, true)), (.p (.faddr 1 (.tmp 1)))⟩
  (.op ⟨(some 8), (some (6, true)), (.p (.loadi false 1 (.tmp 7)))⟩
  (.op ⟨(some 9), (some (6, true)), (.call 38 [(.tmp 8)])⟩
  (.op ⟨(some 10), none, (.p (.pick (.tmp 6) (.tmp 9) (.con (.bool false))))⟩
  (.op ⟨(some 11), none, (.p (.val (.tmp 10)))⟩
  (.op ⟨(some 12), (some (11, true)), (.p (.faddr 2 (.tmp 1)))⟩
  (.op ⟨(some 13), (some (11, true)), (.p (.loadi false 1 (.tmp 12)))⟩
  (.op ⟨(some 14), (some (11, true)), (.p (.bin .geq (.tmp 13) (.con (.int .i64 1))))⟩
  (.op ⟨(some 15), none, (.p (.pick (.tmp 11) (.tmp 14) (.con (.bool false))))⟩
  (.op ⟨(some 16), none, (.p (.val (.tmp 15)))⟩
  (.op ⟨(some 17), (some (16, true)), (.p (.faddr 2 (.tmp 1)))⟩
  (.op ⟨(some 18), (some (16, true)), (.p (.loadi false 1 (.tmp 17)))⟩
  (.op ⟨(some 19), (some (16, true)), (.p (.bin .leq (.tmp 18) (.con (.int .i64 1099511627776))))⟩
  (.op ⟨(some 20), none, (.p (.pick (.tmp 16) (.tmp 19) (.con (.bool false))))⟩
  (.op ⟨(some 2), none, (.p (.val (.tmp 20)))⟩
  .done))))))))))))))))))))
 .ret))⟩
theorem i27_is : compFunc Tryd.prog ⟨[], [1], [1, 3, 7, 12, 17]⟩ [] 27 = some i27 := by kernel_rfl

/-- (baton/fence.place).ahead -/
def i28 : IFn := ⟨2, 14, [.tmp 4],
 (.seq (.ops [] (.op ⟨(some 2), none, (.p (.boxi (.tmp 0)))⟩
  (.op ⟨(some 3), none, (.p (.boxi (.tmp 1)))⟩
  (.op ⟨(some 4), none, (.p (.val (.con (.bool false))))⟩
  .done))))
 (.seq (.ops [] (.op ⟨(some 5), none, (.p (.loadi true 2 (.tmp 2)))⟩
  (.op ⟨(some 6), none, (.p (.loadi true 2 (.tmp 3)))⟩
  (.op ⟨(some 7), none, (.p (.eqd (.all [.s, .s]) true (.tmp 5) (.tmp 6)))⟩
  (.op ⟨(some 8), none, (.p (.val (.tmp 7)))⟩
  (.op ⟨(some 9), (some (8, true)), (.p (.loadi true 2 (.tmp 2)))⟩
  (.op ⟨(some 10), (some (8, true)), (.p (.loadi true 2 (.tmp 3)))⟩
  (.op ⟨(some 11), (some (8, true)), (.call 34 [(.tmp 9), (.tmp 10)])⟩
  (.op ⟨(some 12), (some (8, true)), (.p (.bin .lss (.tmp 11) (.con (.int .i64 0))))⟩
  (.op ⟨(some 13), none, (.p (.pick (.tmp 8) (.tmp 12) (.con (.bool false))))⟩
  (.op ⟨(some 4), none, (.p (.val (.tmp 13)))⟩
  .done)))))))))))
 .ret))⟩
theorem i28_is : compFunc Tryd.prog ⟨[], [2, 3], [2, 3]⟩ [] 28 = some i28 := by kernel_rfl

/-- (baton/fence.Own).may -/
def i29 : IFn := ⟨1, 25, [.tmp 2],
 (.seq (.ops [] (.op ⟨(some 1), none, (.p (.boxi (.tmp 0)))⟩
  (.op ⟨(some 2), none, (.p (.val (.con (.bool false))))⟩
  .done)))
 (.seq (.ops [] (.op ⟨(some 3), none, (.p (.faddr 0 (.tmp 1)))⟩
  (.op ⟨(some 4), none, (.p (.loadi false 1 (.tmp 3)))⟩
  (.op ⟨(some 5), none, (.call 38 [(.tmp 4)])⟩
  (.op ⟨(some 6), none, (.p (.val (.tmp 5)))⟩
  (.op ⟨(some 7), (some (6, true)), (.p (.faddr 1 (.tmp 1)))⟩
  (.op ⟨(some 8), (some (6, true)), (.p (.faddr 0 (.tmp 7)))⟩
  (.op ⟨(some 9), (some (6, true)), (.p (.loadi false 1 (.tmp 8)))⟩
  (.op ⟨(some 10), (some (6, true)), (.call 42 [(.tmp 9)])⟩
  (.op ⟨(some 11), none, (.p (.pick (.tmp 6) (.tmp 10) (.con (.bool false))))⟩
  (.op ⟨(some 12), none, (.p (.val (.tmp 11)))⟩
  (.op ⟨(some 13), (some (12, true)), (.p (.faddr 1 (.tmp 1)))⟩
  (.op ⟨(some 14), (some (12, true)), (.p (.faddr 1 (.tmp 13)))⟩
  (.op ⟨(some 15), (some (12, true)), (.p (.loadi false 1 (.tmp 14)))⟩
  (.op ⟨(some 16), (some (12, true)), (.p (.lenl (.tmp 15)))⟩
  (.op ⟨(some 17), (some (12, true)), (.p (.bin .gtr (.tmp 16) (.con (.int .i64 0))))⟩
  (.op ⟨(some 18), none, (.p (.pick (.tmp 12) (.tmp 17) (.con (.bool false))))⟩
  (.op ⟨(some 19), none, (.p (.val (.tmp 18)))⟩
  (.op ⟨(some 20), (some (19, true)), (.p (.faddr 1 (.tmp 1)))⟩
  (.op ⟨(some 21), (some (19, true)), (.p (.faddr 1 (.tmp 20)))⟩
  (.op ⟨(some 22), (some (19, true)), (.p (.loadi false 1 (.tmp 21)))⟩
  (.op ⟨(some 23), (some (19, true)), (.call 47 [(.tmp 22)])⟩
  (.op ⟨(some 24), none, (.p (.pick (.tmp 19) (.tmp 23) (.con (.bool false))))⟩
  (.op ⟨(some 2), none, (.p (.val (.tmp 24)))⟩
  .done))))))))))))))))))))))))
 .ret))⟩
theorem i29_is : compFunc Tryd.prog ⟨[], [1], [1, 3, 7, 13, 20, 8, 14, 21]⟩ [] 29 = some i29 := by kernel_rfl

/-- baton/labels.Key -/
def i30 : IFn := ⟨1, 22, [.tmp 2],
 (.seq (.ops [] (.op ⟨(some 2), none, (.p (.val (.con (.str []))))⟩
  .done))
 (.seq (.ops [] (.op ⟨(some 3), none, (.p (.val (.con (.slice true 1 [] .full))))⟩
  .done))
 (.seq (.seq (.ops [] (.op ⟨(some 6), none, (.p (.val (.tmp 0)))⟩
  (.op ⟨(some 7), none, (.p (.lenl (.tmp 6)))⟩
  (.op ⟨(some 8), none, (.p (.val (.con (.int .i64 0))))⟩
  .done))))
 (.block 0 (.loop (.seq (.ops [] (.op ⟨(some 9), none, (.p (.bin .lss (.tmp 8) (.tmp 7)))⟩
  .done))
 (.seq (.cond (.tmp 9)
 .skip
 (.exit 0))
 (.seq (.block 1 (.seq (.ops [] (.op ⟨(some 10), none, (.p (.iaddr 2 (.tmp 6) (.tmp 8)))⟩
  (.op ⟨(some 11), none, (.p (.loadi true 2 (.tmp 10)))⟩
  (.op ⟨(some 5), none, (.alloc [(.str []), (.str [])])⟩
  (.op ⟨(some 5), none, (.storef 5 2 (.tmp 11))⟩
  .done)))))
 (.ops [] (.op ⟨(some 12), none, (.p (.val (.tmp 3)))⟩
  (.op ⟨(some 13), none, (.p (.faddr 0 (.tmp 5)))⟩
  (.op ⟨(some 14), none, (.p (.loadi false 1 (.tmp 13)))⟩
  (.op ⟨(some 16), none, (.p (.faddr 1 (.tmp 5)))⟩
  (.op ⟨(some 17), none, (.p (.loadi false 1 (.tmp 16)))⟩
  (.op ⟨(some 15), none, (.call 48 [(.tmp 12), (.tmp 14)])⟩
  (.op ⟨(some 18), none, (.call 48 [(.tmp 15), (.tmp 17)])⟩
  (.op ⟨(some 3), none, (.p (.val (.tmp 18)))⟩
  .done)))))))))))
 (.ops [] (.op ⟨(some 19), none, (.p (.bin .add (.tmp 8) (.con (.int .i64 1))))⟩
  (.op ⟨(some 8), none, (.p (.val (.tmp 19)))⟩
  .done)))))))))
 (.seq (.ops [] (.op ⟨(some 20), none, (.p (.val (.tmp 3)))⟩
  (.op ⟨(some 21), none, (.p (.cvbs (.tmp 20)))⟩
  (.op ⟨(some 2), none, (.p (.val (.tmp 21)))⟩
  .done))))
 .ret))))⟩
theorem i30_is : compFunc Tryd.prog ⟨[5], [], [5, 10, 13, 16]⟩ [] 30 = some i30 := by kernel_rfl

/-- slices.Clone[[]baton/api.Sample,baton/api.Sample] -/
def i31 : IFn := ⟨1, 8, [.tmp 2],
 (.seq (.ops [] (.op ⟨(some 2), none, (.p (.val (.con (.slice true 2 [] .full))))⟩
  .done))
 (.seq (.seq (.ops [] (.op ⟨(some 3), none, (.p (.val (.tmp 0)))⟩
  (.op ⟨(some 4), none, (.p (.eqn .s false (.tmp 3) (.con (.slice true 2 [] .full))))⟩
  .done)))
 (.cond (.tmp 4)
 (.seq (.ops [] (.op ⟨(some 2), none, (.p (.val (.con (.slice true 2 [] .full))))⟩
  .done))
 .ret)
 .skip))
 (.seq (.ops [] (.op ⟨(some 5), none, (.p (.mks 2 []))⟩
  (.op ⟨(some 6), none, (.p (.val (.tmp 0)))⟩
  (.op ⟨(some 7), none, (.append 2 16 (.tmp 5) (.tmp 6))⟩
  (.op ⟨(some 2), none, (.p (.val (.tmp 7)))⟩
  .done)))))
 .ret)))⟩
theorem i31_is : compFunc Tryd.prog ⟨[], [], []⟩ [] 31 = some i31 := by kernel_rfl

/-- slices.SortedFunc[baton/fence.place] -/
def i32 : IFn := ⟨2, 12, [.tmp 4],
 (.seq (.ops [] (.op ⟨(some 4), none, (.p (.val (.con (.slice true 2 [] .full))))⟩
  .done))
 (.seq (.ops [] (.op ⟨(some 6), none, (.p (.val (.tmp 0)))⟩
  (.op ⟨(some 7), none, (.call 49 [(.tmp 6)])⟩
  (.op ⟨(some 5), none, (.p (.val (.tmp 7)))⟩
  .done))))
 (.seq (.ops [] (.op ⟨(some 8), none, (.p (.val (.tmp 5)))⟩
  (.op ⟨(some 9), none, (.p (.val (.tmp 1)))⟩
  (.op ⟨(some 10), none, (.call 50 [(.tmp 8), (.tmp 9)])⟩
  .done))))
 (.seq (.ops [] (.op ⟨(some 11), none, (.p (.val (.tmp 5)))⟩
  (.op ⟨(some 4), none, (.p (.val (.tmp 11)))⟩
  .done)))
 .ret))))⟩
theorem i32_is : compFunc Tryd.prog ⟨[], [], []⟩ [] 32 = some i32 := by kernel_rfl

/-- maps.Keys[map[baton/fence.place]int64,baton/fence.place,int64] -/
def i33 : IFn := ⟨1, 4, [.tmp 2],
 (.seq (.ops [] (.op ⟨(some 1), none, (.p (.boxi (.tmp 0)))⟩
  (.op ⟨(some 2), none, (.p (.val (.con .nilFunc)))⟩
  .done)))
 (.seq (.ops [] (.op ⟨(some 3), none, (.p (.mkf (.func 51) [] [(.tmp 1)]))⟩
  (.op ⟨(some 2), none, (.p (.val (.tmp 3)))⟩
  .done)))
 .ret))⟩
theorem i33_is : compFunc Tryd.prog ⟨[], [1], [1]⟩ [] 33 = some i33 := by kernel_rfl

/-- (baton/fence.place).compare -/
def i34 : IFn := ⟨2, 17, [.tmp 4],
 (.seq (.ops [] (.op ⟨(some 2), none, (.p (.boxi (.tmp 0)))⟩
  (.op ⟨(some 3), none, (.p (.boxi (.tmp 1)))⟩
  (.op ⟨(some 4), none, (.p (.val (.con (.int .i64 0))))⟩
  .done))))
 (.seq (.ops [] (.op ⟨(some 5), none, (.p (.faddr 0 (.tmp 2)))⟩
  (.op ⟨(some 6), none, (.p (.loadi false 1 (.tmp 5)))⟩
  (.op ⟨(some 7), none, (.p (.faddr 0 (.tmp 3)))⟩
  (.op ⟨(some 8), none, (.p (.loadi false 1 (.tmp 7)))⟩
  (.op ⟨(some 10), none, (.p (.faddr 1 (.tmp 2)))⟩
  (.op ⟨(some 11), none, (.p (.loadi false 1 (.tmp 10)))⟩
  (.op ⟨(some 12), none, (.p (.faddr 1 (.tmp 3)))⟩
  (.op ⟨(some 13), none, (.p (.loadi false 1 (.tmp 12)))⟩
  (.op ⟨(some 9), none, (.call 53 [(.tmp 6), (.tmp 8)])⟩
  (.op ⟨(some 14), none, (.call 53 [(.tmp 11), (.tmp 13)])⟩
  (.op ⟨(some 15), none, (.p (.mks 1 [(.tmp 9), (.tmp 14)]))⟩
  (.op ⟨(some 16), none, (.call 52 [(.tmp 15)])⟩
  (.op ⟨(some 4), none, (.p (.val (.tmp 16)))⟩
  .done))))))))))))))
 .ret))⟩
theorem i34_is : compFunc Tryd.prog ⟨[], [2, 3], [2, 3, 5, 7, 10, 12]⟩ [] 34 = some i34 := by kernel_rfl

/-- maps.Keys[map[baton/fence.place]baton/fence.own,baton/fence.place,baton/fence.own] -/
def i35 : IFn := ⟨1, 4, [.tmp 2],
 (.seq (.ops [] (.op ⟨(some 1), none, (.p (.boxi (.tmp 0)))⟩
  (.op ⟨(some 2), none, (.p (.val (.con .nilFunc)))⟩
  .done)))
 (.seq (.ops [] (.op ⟨(some 3), none, (.p (.mkf (.func 54) [] [(.tmp 1)]))⟩
  (.op ⟨(some 2), none, (.p (.val (.tmp 3)))⟩
  .done)))
 .ret))⟩
theorem i35_is : compFunc Tryd.prog ⟨[], [1], [1]⟩ [] 35 = some i35 := by kernel_rfl

/-- maps.Clone[map[baton/fence.place]int64,baton/fence.place,int64] -/
def i36 : IFn := ⟨1, 9, [.tmp 2],
 (.seq (.ops [] (.op ⟨(some 2), none, (.p (.val (.con .nilmap)))⟩
  .done))
 (.seq (.seq (.ops [] (.op ⟨(some 3), none, (.p (.val (.tmp 0)))⟩
  (.op ⟨(some 4), none, (.p (.eqn .m false (.tmp 3) (.con .nilmap)))⟩
  .done)))
 (.cond (.tmp 4)
 (.seq (.ops [] (.op ⟨(some 2), none, (.p (.val (.con .nilmap)))⟩
  .done))
 .ret)
 .skip))
 (.seq (.ops [] (.op ⟨(some 5), none, (.p (.val (.tmp 0)))⟩
  (.op ⟨(some 6), none, (.p (.ifc 62 (.tmp 5)))⟩
  (.op ⟨(some 7), none, (.call 55 [(.tmp 6)])⟩
  (.op ⟨(some 8), none, (.p (.asrt false 62 .nilmap (.tmp 7)))⟩
  (.op ⟨(some 2), none, (.p (.val (.tmp 8)))⟩
  .done))))))
 .ret)))⟩
theorem i36_is : compFunc Tryd.prog ⟨[], [], []⟩ [] 36 = some i36 := by kernel_rfl

/-- maps.Clone[map[baton/fence.place]baton/fence.own,baton/fence.place,baton/fence.own] -/
def i37 : IFn := ⟨1, 9, [.tmp 2],
 (.seq (.ops [] (.op ⟨(some 2), none, (.p (.val (.con .nilmap)))⟩
  .done))
 (.seq (.seq (.ops [] (.op ⟨(some 3), none, (.p (.val (.tmp 0)))⟩
  (.op ⟨(some 4), none, (.p (.eqn .m false (.tmp 3) (.con .nilmap)))⟩
  .done)))
 (.cond (.tmp 4)
 (.seq (.ops [] (.op ⟨(some 2), none, (.p (.val (.con .nilmap)))⟩
  .done))
 .ret)
 .skip))
 (.seq (.ops [] (.op ⟨(some 5), none, (.p (.val (.tmp 0)))⟩
  (.op ⟨(some 6), none, (.p (.ifc 63 (.tmp 5)))⟩
  (.op ⟨(some 7), none, (.call 55 [(.tmp 6)])⟩
  (.op ⟨(some 8), none, (.p (.asrt false 63 .nilmap (.tmp 7)))⟩
  (.op ⟨(some 2), none, (.p (.val (.tmp 8)))⟩
  .done))))))
 .ret)))⟩
theorem i37_is : compFunc Tryd.prog ⟨[], [], []⟩ [] 37 = some i37 := by kernel_rfl

/-- baton/keys.Name -/
def i38 : IFn := ⟨1, 9, [.tmp 2],
 (.seq (.ops [] (.op ⟨(some 2), none, (.p (.val (.con (.bool false))))⟩
  .done))
 (.seq (.ops [] (.op ⟨(some 3), none, (.p (.val (.tmp 0)))⟩
  (.op ⟨(some 4), none, (.p (.bin .neq (.tmp 3) (.con (.str []))))⟩
  (.op ⟨(some 5), none, (.p (.val (.tmp 4)))⟩
  (.op ⟨(some 6), (some (5, true)), (.p (.val (.tmp 0)))⟩
  (.op ⟨(some 7), (some (5, true)), (.call 56 [(.tmp 6), (.con (.int .i64 2)), (.con (.int .i64 24))])⟩
  (.op ⟨(some 8), none, (.p (.pick (.tmp 5) (.tmp 7) (.con (.bool false))))⟩
  (.op ⟨(some 2), none, (.p (.val (.tmp 8)))⟩
  .done))))))))
 .ret))⟩
theorem i38_is : compFunc Tryd.prog ⟨[], [], []⟩ [] 38 = some i38 := by kernel_rfl

/-- baton/rpc.MayBatch$1 -/
def i39 : IFn := ⟨1, 11, [.tmp 2],
 (.seq (.ops [] (.op ⟨(some 1), none, (.p (.boxi (.tmp 0)))⟩
  (.op ⟨(some 2), none, (.p (.val (.con (.bool false))))⟩
  .done)))
 (.seq (.ops [] (.op ⟨(some 3), none, (.p (.faddr 0 (.tmp 1)))⟩
  (.op ⟨(some 4), none, (.p (.loadi false 1 (.tmp 3)))⟩
  (.op ⟨(some 5), none, (.p (.bin .lss (.tmp 4) (.con (.int .i64 0))))⟩
  (.op ⟨(some 6), none, (.p (.val (.tmp 5)))⟩
  (.op ⟨(some 7), (some (6, false)), (.p (.faddr 0 (.tmp 1)))⟩
  (.op ⟨(some 8), (some (6, false)), (.p (.loadi false 1 (.tmp 7)))⟩
  (.op ⟨(some 9), (some (6, false)), (.p (.bin .gtr (.tmp 8) (.con (.int .i64 1125899906842624))))⟩
  (.op ⟨(some 10), none, (.p (.pick (.tmp 6) (.con (.bool true)) (.tmp 9)))⟩
  (.op ⟨(some 2), none, (.p (.val (.tmp 10)))⟩
  .done))))))))))
 .ret))⟩
theorem i39_is : compFunc Tryd.prog ⟨[], [1], [1, 3, 7]⟩ [] 39 = some i39 := by kernel_rfl

/-- slices.ContainsFunc[[]baton/api.Series,baton/api.Series] -/
def i40 : IFn := ⟨2, 9, [.tmp 4],
 (.seq (.ops [] (.op ⟨(some 4), none, (.p (.val (.con (.bool false))))⟩
  .done))
 (.seq (.ops [] (.op ⟨(some 5), none, (.p (.val (.tmp 0)))⟩
  (.op ⟨(some 6), none, (.p (.val (.tmp 1)))⟩
  (.op ⟨(some 7), none, (.call 57 [(.tmp 5), (.tmp 6)])⟩
  (.op ⟨(some 8), none, (.p (.bin .geq (.tmp 7) (.con (.int .i64 0))))⟩
  (.op ⟨(some 4), none, (.p (.val (.tmp 8)))⟩
  .done))))))
 .ret))⟩
theorem i40_is : compFunc Tryd.prog ⟨[], [], []⟩ [] 40 = some i40 := by kernel_rfl

/-- baton/rpc.MayBatch$2 -/
def i41 : IFn := ⟨1, 14, [.tmp 3],
 (.seq (.ops [] (.op ⟨(some 2), none, (.p (.boxi (.tmp 0)))⟩
  (.op ⟨(some 3), none, (.p (.val (.con (.bool false))))⟩
  .done)))
 (.seq (.ops [] (.op ⟨(some 4), none, (.p (.faddr 0 (.tmp 2)))⟩
  (.op ⟨(some 5), none, (.p (.loadi false 1 (.tmp 4)))⟩
  (.op ⟨(some 6), none, (.call 42 [(.tmp 5)])⟩
  (.op ⟨(some 7), none, (.p (.un .not (.tmp 6)))⟩
  (.op ⟨(some 8), none, (.p (.val (.tmp 7)))⟩
  (.op ⟨(some 9), (some (8, false)), (.p (.faddr 1 (.tmp 2)))⟩
  (.op ⟨(some 10), (some (8, false)), (.p (.loadi false 1 (.tmp 9)))⟩
  (.op ⟨(some 11), (some (8, false)), (.load false 1 (.tmp 1))⟩
  (.op ⟨(some 12), (some (8, false)), (.call 43 [(.tmp 10), (.tmp 11)])⟩
  (.op ⟨(some 13), none, (.p (.pick (.tmp 8) (.con (.bool true)) (.tmp 12)))⟩
  (.op ⟨(some 3), none, (.p (.val (.tmp 13)))⟩
  .done))))))))))))
 .ret))⟩
theorem i41_is : compFunc Tryd.prog ⟨[], [2], [2, 4, 9]⟩ [] 41 = some i41 := by kernel_rfl

/-- baton/labels.May -/
def i42 : IFn := ⟨1, 46, [.tmp 2],
 (.seq (.ops [] (.op ⟨(some 2), none, (.p (.val (.con (.bool false))))⟩
  .done))
 (.seq (.seq (.ops [] (.op ⟨(some 5), none, (.p (.val (.tmp 0)))⟩
  (.op ⟨(some 6), none, (.p (.lenl (.tmp 5)))⟩
  (.op ⟨(some 7), none, (.p (.val (.con (.int .i64 0))))⟩
  .done))))
 (.block 0 (.loop (.seq (.ops [] (.op ⟨(some 8), none, (.p (.bin .lss (.tmp 7) (.tmp 6)))⟩
  .done))
 (.seq (.cond (.tmp 8)
 .skip
 (.exit 0))
 (.seq (.block 1 (.seq (.ops [] (.op ⟨(some 9), none, (.p (.val (.tmp 7)))⟩
  (.op ⟨(some 10), none, (.p (.iaddr 2 (.tmp 5) (.tmp 7)))⟩
  (.op ⟨(some 11), none, (.p (.loadi true 2 (.tmp 10)))⟩
  (.op ⟨(some 4), none, (.alloc [(.str []), (.str [])])⟩
  (.op ⟨(some 3), none, (.p (.val (.tmp 9)))⟩
  (.op ⟨(some 4), none, (.storef 4 2 (.tmp 11))⟩
  .done)))))))
 (.seq (.ops [] (.op ⟨(some 12), none, (.p (.faddr 0 (.tmp 4)))⟩
  (.op ⟨(some 13), none, (.p (.loadi false 1 (.tmp 12)))⟩
  (.op ⟨(some 14), none, (.call 58 [(.tmp 13)])⟩
  (.op ⟨(some 15), none, (.p (.un .not (.tmp 14)))⟩
  (.op ⟨(some 16), none, (.p (.val (.tmp 15)))⟩
  (.op ⟨(some 17), (some (16, false)), (.p (.faddr 1 (.tmp 4)))⟩
  (.op ⟨(some 18), (some (16, false)), (.p (.loadi false 1 (.tmp 17)))⟩
  (.op ⟨(some 19), (some (16, false)), (.call 59 [(.tmp 18)])⟩
  (.op ⟨(some 20), (some (16, false)), (.p (.un .not (.tmp 19)))⟩
  (.op ⟨(some 21), none, (.p (.pick (.tmp 16) (.con (.bool true)) (.tmp 20)))⟩
  (.op ⟨(some 22), none, (.p (.val (.tmp 21)))⟩
  (.op ⟨(some 23), (some (22, false)), (.p (.val (.tmp 3)))⟩
  (.op ⟨(some 24), (some (22, false)), (.p (.bin .gtr (.tmp 23) (.con (.int .i64 0))))⟩
  (.op ⟨(some 25), (some (22, false)), (.p (.val (.tmp 24)))⟩
  (.op ⟨(some 26), (some (25, true)), (.p (.faddr 0 (.tmp 4)))⟩
  (.op ⟨(some 27), (some (25, true)), (.p (.loadi false 1 (.tmp 26)))⟩
  (.op ⟨(some 28), (some (25, true)), (.p (.val (.tmp 0)))⟩
  (.op ⟨(some 29), (some (25, true)), (.p (.val (.tmp 3)))⟩
  (.op ⟨(some 30), (some (25, true)), (.p (.bin .sub (.tmp 29) (.con (.int .i64 1))))⟩
  (.op ⟨(some 31), (some (25, true)), (.p (.iaddr 2 (.tmp 28) (.tmp 30)))⟩
  (.op ⟨(some 32), (some (25, true)), (.p (.faddr 0 (.tmp 31)))⟩
  (.op ⟨(some 33), (some (25, true)), (.p (.loadi false 1 (.tmp 32)))⟩
  (.op ⟨(some 34), (some (25, true)), (.p (.bin .leq (.tmp 27) (.tmp 33)))⟩
  (.op ⟨(some 35), (some (22, false)), (.p (.pick (.tmp 25) (.tmp 34) (.con (.bool false))))⟩
  (.op ⟨(some 36), none, (.p (.pick (.tmp 22) (.con (.bool true)) (.tmp 35)))⟩
  .done))))))))))))))))))))))))))
 (.cond (.tmp 36)
 (.seq (.ops [] (.op ⟨(some 2), none, (.p (.val (.con (.bool false))))⟩
  .done))
 .ret)
 .skip))))
 (.ops [] (.op ⟨(some 37), none, (.p (.bin .add (.tmp 7) (.con (.int .i64 1))))⟩
  (.op ⟨(some 7), none, (.p (.val (.tmp 37)))⟩
  .done)))))))))
 (.seq (.ops [] (.op ⟨(some 38), none, (.p (.val (.tmp 0)))⟩
  (.op ⟨(some 39), none, (.p (.lenl (.tmp 38)))⟩
  (.op ⟨(some 40), none, (.p (.bin .gtr (.tmp 39) (.con (.int .i64 0))))⟩
  (.op ⟨(some 41), none, (.p (.val (.tmp 40)))⟩
  (.op ⟨(some 42), (some (41, true)), (.p (.val (.tmp 0)))⟩
  (.op ⟨(some 43), (some (41, true)), (.p (.lenl (.tmp 42)))⟩
  (.op ⟨(some 44), (some (41, true)), (.p (.bin .leq (.tmp 43) (.con (.int .i64 16))))⟩
  (.op ⟨(some 45), none, (.p (.pick (.tmp 41) (.tmp 44) (.con (.bool false))))⟩
  (.op ⟨(some 2), none, (.p (.val (.tmp 45)))⟩
  .done))))))))))
 .ret)))⟩
theorem i42_is : compFunc Tryd.prog ⟨[4], [], [4, 10, 12, 17, 26, 31, 32]⟩ [] 42 = some i42 := by kernel_rfl

/-- slices.ContainsFunc[[]baton/api.Sample,baton/api.Sample] -/
def i43 : IFn := ⟨2, 9, [.tmp 4],
 (.seq (.ops [] (.op ⟨(some 4), none, (.p (.val (.con (.bool false))))⟩
  .done))
 (.seq (.ops [] (.op ⟨(some 5), none, (.p (.val (.tmp 0)))⟩
  (.op ⟨(some 6), none, (.p (.val (.tmp 1)))⟩
  (.op ⟨(some 7), none, (.call 60 [(.tmp 5), (.tmp 6)])⟩
  (.op ⟨(some 8), none, (.p (.bin .geq (.tmp 7) (.con (.int .i64 0))))⟩
  (.op ⟨(some 4), none, (.p (.val (.tmp 8)))⟩
  .done))))))
 .ret))⟩
theorem i43_is : compFunc Tryd.prog ⟨[], [], []⟩ [] 43 = some i43 := by kernel_rfl

/-- baton/series.Put -/
def i44 : IFn := ⟨2, 37, [.tmp 4, .tmp 5, .tmp 6],
 (.seq (.ops [] (.op ⟨(some 4), none, (.p (.val (.con (.slice true 2 [] .full))))⟩
  (.op ⟨(some 5), none, (.p (.val (.con (.slice true 1 [] .full))))⟩
  (.op ⟨(some 6), none, (.p (.val (.con (.int .i64 0))))⟩
  .done))))
 (.seq (.seq (.ops [] (.op ⟨(some 10), none, (.p (.val (.tmp 0)))⟩
  (.op ⟨(some 11), none, (.call 47 [(.tmp 10)])⟩
  (.op ⟨(some 12), none, (.p (.un .not (.tmp 11)))⟩
  .done))))
 (.cond (.tmp 12)
 (.seq (.ops [] (.op ⟨(some 4), none, (.p (.val (.con (.slice true 2 [] .full))))⟩
  (.op ⟨(some 5), none, (.p (.val (.con (.slice true 1 [] .full))))⟩
  (.op ⟨(some 6), none, (.p (.val (.con (.int .i64 4))))⟩
  .done))))
 .ret)
 .skip))
 (.seq (.ops [] (.op ⟨(some 13), none, (.p (.val (.tmp 0)))⟩
  (.op ⟨(some 14), none, (.call 31 [(.tmp 13)])⟩
  (.op ⟨(some 4), none, (.p (.val (.tmp 14)))⟩
  .done))))
 (.seq (.seq (.ops [] (.op ⟨(some 15), none, (.p (.val (.tmp 1)))⟩
  (.op ⟨(some 16), none, (.p (.lenl (.tmp 15)))⟩
  (.op ⟨(some 17), none, (.p (.val (.con (.int .i64 0))))⟩
  .done))))
 (.block 0 (.loop (.seq (.ops [] (.op ⟨(some 18), none, (.p (.bin .lss (.tmp 17) (.tmp 16)))⟩
  .done))
 (.seq (.cond (.tmp 18)
 .skip
 (.exit 0))
 (.seq (.block 1 (.seq (.ops [] (.op ⟨(some 19), none, (.p (.iaddr 2 (.tmp 15) (.tmp 17)))⟩
  (.op ⟨(some 20), none, (.p (.loadi true 2 (.tmp 19)))⟩
  (.op ⟨(some 8), none, (.alloc [(.int .i64 0), (.int .u64 0)])⟩
  (.op ⟨(some 8), none, (.storef 8 2 (.tmp 20))⟩
  .done)))))
 (.seq (.ops [] (.op ⟨(some 21), none, (.p (.val (.tmp 4)))⟩
  (.op ⟨(some 22), none, (.p (.loadi true 2 (.tmp 8)))⟩
  (.op ⟨(some 23), none, (.call 61 [(.tmp 21), (.tmp 22)])⟩
  (.op ⟨(some 9), none, (.p (.val (.tmp 23)))⟩
  .done)))))
 (.seq (.seq (.ops [] (.op ⟨(some 24), none, (.p (.val (.tmp 9)))⟩
  (.op ⟨(some 25), none, (.p (.bin .eql (.tmp 24) (.con (.int .u8 1))))⟩
  .done)))
 (.cond (.tmp 25)
 (.ops [] (.op ⟨(some 26), none, (.p (.val (.tmp 4)))⟩
  (.op ⟨(some 27), none, (.p (.loadi true 2 (.tmp 8)))⟩
  (.op ⟨(some 28), none, (.p (.mks 2 [(.tmp 27)]))⟩
  (.op ⟨(some 29), none, (.append 2 16 (.tmp 26) (.tmp 28))⟩
  (.op ⟨(some 4), none, (.p (.val (.tmp 29)))⟩
  .done))))))
 .skip))
 (.ops [] (.op ⟨(some 30), none, (.p (.val (.tmp 5)))⟩
  (.op ⟨(some 31), none, (.p (.val (.tmp 9)))⟩
  (.op ⟨(some 32), none, (.p (.mks 1 [(.tmp 31)]))⟩
  (.op ⟨(some 33), none, (.append 1 1 (.tmp 30) (.tmp 32))⟩
  (.op ⟨(some 5), none, (.p (.val (.tmp 33)))⟩
  .done))))))))))
 (.ops [] (.op ⟨(some 34), none, (.p (.bin .add (.tmp 17) (.con (.int .i64 1))))⟩
  (.op ⟨(some 17), none, (.p (.val (.tmp 34)))⟩
  .done)))))))))
 (.seq (.ops [] (.op ⟨(some 35), none, (.p (.val (.tmp 4)))⟩
  (.op ⟨(some 36), none, (.p (.val (.tmp 5)))⟩
  (.op ⟨(some 4), none, (.p (.val (.tmp 35)))⟩
  (.op ⟨(some 5), none, (.p (.val (.tmp 36)))⟩
  (.op ⟨(some 6), none, (.p (.val (.con (.int .i64 0))))⟩
  .done))))))
 .ret)))))⟩
theorem i44_is : compFunc Tryd.prog ⟨[8], [], [8, 19]⟩ [] 44 = some i44 := by kernel_rfl

/-- (baton/series.Verdict).Bad -/
def i45 : IFn := ⟨1, 9, [.tmp 2],
 (.seq (.ops [] (.op ⟨(some 2), none, (.p (.val (.con (.bool false))))⟩
  .done))
 (.seq (.ops [] (.op ⟨(some 3), none, (.p (.val (.tmp 0)))⟩
  (.op ⟨(some 4), none, (.p (.bin .eql (.tmp 3) (.con (.int .u8 3))))⟩
  (.op ⟨(some 5), none, (.p (.val (.tmp 4)))⟩
  (.op ⟨(some 6), (some (5, false)), (.p (.val (.tmp 0)))⟩
  (.op ⟨(some 7), (some (5, false)), (.p (.bin .eql (.tmp 6) (.con (.int .u8 4))))⟩
  (.op ⟨(some 8), none, (.p (.pick (.tmp 5) (.con (.bool true)) (.tmp 7)))⟩
  (.op ⟨(some 2), none, (.p (.val (.tmp 8)))⟩
  .done))))))))
 .ret))⟩
theorem i45_is : compFunc Tryd.prog ⟨[], [], []⟩ [] 45 = some i45 := by kernel_rfl

/-- baton/batonref06.Alike -/
def i46 : IFn := ⟨2, 59, [.tmp 4],
 (.seq (.ops [] (.op ⟨(some 2), none, (.p (.boxi (.tmp 0)))⟩
  (.op ⟨(some 3), none, (.p (.boxi (.tmp 1)))⟩
  (.op ⟨(some 4), none, (.p (.val (.con (.bool false))))⟩
  .done))))
 (.seq (.seq (.ops [] (.op ⟨(some 7), none, (.p (.faddr 0 (.tmp 2)))⟩
  (.op ⟨(some 8), none, (.p (.loadi false 1 (.tmp 7)))⟩
  (.op ⟨(some 9), none, (.p (.lenl (.tmp 8)))⟩
  (.op ⟨(some 10), none, (.p (.faddr 0 (.tmp 3)))⟩
  (.op ⟨(some 11), none, (.p (.loadi false 1 (.tmp 10)))⟩
  (.op ⟨(some 12), none, (.p (.lenl (.tmp 11)))⟩
  (.op ⟨(some 13), none, (.p (.bin .neq (.tmp 9) (.tmp 12)))⟩
  (.op ⟨(some 14), none, (.p (.val (.tmp 13)))⟩
  (.op ⟨(some 15), (some (14, false)), (.p (.faddr 1 (.tmp 2)))⟩
  (.op ⟨(some 16), (some (14, false)), (.p (.loadi false 1 (.tmp 15)))⟩
  (.op ⟨(some 17), (some (14, false)), (.p (.lenl (.tmp 16)))⟩
  (.op ⟨(some 18), (some (14, false)), (.p (.faddr 1 (.tmp 3)))⟩
  (.op ⟨(some 19), (some (14, false)), (.p (.loadi false 1 (.tmp 18)))⟩
  (.op ⟨(some 20), (some (14, false)), (.p (.lenl (.tmp 19)))⟩
  (.op ⟨(some 21), (some (14, false)), (.p (.bin .neq (.tmp 17) (.tmp 20)))⟩
  (.op ⟨(some 22), none, (.p (.pick (.tmp 14) (.con (.bool true)) (.tmp 21)))⟩
  .done)))))))))))))))))
 (.cond (.tmp 22)
 (.seq (.ops [] (.op ⟨(some 4), none, (.p (.val (.con (.bool false))))⟩
  .done))
 .ret)
 .skip))
 (.seq (.seq (.ops [] (.op ⟨(some 5), none, (.p (.val (.con (.int .i64 0))))⟩
  .done))
 (.block 0 (.loop (.seq (.seq (.ops [] (.op ⟨(some 23), none, (.p (.val (.tmp 5)))⟩
  (.op ⟨(some 24), none, (.p (.faddr 0 (.tmp 2)))⟩
  (.op ⟨(some 25), none, (.p (.loadi false 1 (.tmp 24)))⟩
  (.op ⟨(some 26), none, (.p (.lenl (.tmp 25)))⟩
  (.op ⟨(some 27), none, (.p (.bin .lss (.tmp 23) (.tmp 26)))⟩
  .done))))))
 (.cond (.tmp 27)
 .skip
 (.exit 0)))
 (.seq (.block 1 (.seq (.ops [] (.op ⟨(some 30), none, (.p (.faddr 0 (.tmp 2)))⟩
  (.op ⟨(some 31), none, (.p (.loadi false 1 (.tmp 30)))⟩
  (.op ⟨(some 32), none, (.p (.val (.tmp 5)))⟩
  (.op ⟨(some 33), none, (.p (.iaddr 2 (.tmp 31) (.tmp 32)))⟩
  (.op ⟨(some 34), none, (.p (.loadi true 2 (.tmp 33)))⟩
  (.op ⟨(some 35), none, (.p (.faddr 0 (.tmp 3)))⟩
  (.op ⟨(some 36), none, (.p (.loadi false 1 (.tmp 35)))⟩
  (.op ⟨(some 37), none, (.p (.val (.tmp 5)))⟩
  (.op ⟨(some 38), none, (.p (.iaddr 2 (.tmp 36) (.tmp 37)))⟩
  (.op ⟨(some 39), none, (.p (.loadi true 2 (.tmp 38)))⟩
  (.op ⟨(some 40), none, (.p (.eqd (.all [.s, .s]) true (.tmp 34) (.tmp 39)))⟩
  .done))))))))))))
 (.cond (.tmp 40)
 (.seq (.ops [] (.op ⟨(some 4), none, (.p (.val (.con (.bool false))))⟩
  .done))
 .ret)
 .skip)))
 (.ops [] (.op ⟨(some 28), none, (.p (.val (.tmp 5)))⟩
  (.op ⟨(some 29), none, (.p (.bin .add (.tmp 28) (.con (.int .i64 1))))⟩
  (.op ⟨(some 5), none, (.p (.val (.tmp 29)))⟩
  .done)))))))))
 (.seq (.seq (.ops [] (.op ⟨(some 6), none, (.p (.val (.con (.int .i64 0))))⟩
  .done))
 (.block 2 (.loop (.seq (.seq (.ops [] (.op ⟨(some 41), none, (.p (.val (.tmp 6)))⟩
  (.op ⟨(some 42), none, (.p (.faddr 1 (.tmp 2)))⟩
  (.op ⟨(some 43), none, (.p (.loadi false 1 (.tmp 42)))⟩
  (.op ⟨(some 44), none, (.p (.lenl (.tmp 43)))⟩
  (.op ⟨(some 45), none, (.p (.bin .lss (.tmp 41) (.tmp 44)))⟩
  .done))))))
 (.cond (.tmp 45)
 .skip
 (.exit 2)))
 (.seq (.block 3 (.seq (.ops [] (.op ⟨(some 48), none, (.p (.faddr 1 (.tmp 2)))⟩
  (.op ⟨(some 49), none, (.p (.loadi false 1 (.tmp 48)))⟩
  (.op ⟨(some 50), none, (.p (.val (.tmp 6)))⟩
  (.op ⟨(some 51), none, (.p (.iaddr 2 (.tmp 49) (.tmp 50)))⟩
  (.op ⟨(some 52), none, (.p (.loadi true 2 (.tmp 51)))⟩
  (.op ⟨(some 53), none, (.p (.faddr 1 (.tmp 3)))⟩
  (.op ⟨(some 54), none, (.p (.loadi false 1 (.tmp 53)))⟩
  (.op ⟨(some 55), none, (.p (.val (.tmp 6)))⟩
  (.op ⟨(some 56), none, (.p (.iaddr 2 (.tmp 54) (.tmp 55)))⟩
  (.op ⟨(some 57), none, (.p (.loadi true 2 (.tmp 56)))⟩
  (.op ⟨(some 58), none, (.p (.eqd (.all [.i, .i]) true (.tmp 52) (.tmp 57)))⟩
  .done))))))))))))
 (.cond (.tmp 58)
 (.seq (.ops [] (.op ⟨(some 4), none, (.p (.val (.con (.bool false))))⟩
  .done))
 .ret)
 .skip)))
 (.ops [] (.op ⟨(some 46), none, (.p (.val (.tmp 6)))⟩
  (.op ⟨(some 47), none, (.p (.bin .add (.tmp 46) (.con (.int .i64 1))))⟩
  (.op ⟨(some 6), none, (.p (.val (.tmp 47)))⟩
  .done)))))))))
 (.seq (.ops [] (.op ⟨(some 4), none, (.p (.val (.con (.bool true))))⟩
  .done))
 .ret)))))⟩
theorem i46_is : compFunc Tryd.prog ⟨[], [2, 3], [2, 3, 7, 10, 15, 18, 24, 30, 33, 35, 38, 42, 48, 51, 53, 56]⟩ [] 46 = some i46 := by kernel_rfl

/-- baton/series.May -/
def i47 : IFn := ⟨1, 32, [.tmp 2],
 (.seq (.ops [] (.op ⟨(some 2), none, (.p (.val (.con (.bool false))))⟩
  .done))
 (.seq (.seq (.ops [] (.op ⟨(some 5), none, (.p (.val (.tmp 0)))⟩
  (.op ⟨(some 6), none, (.p (.lenl (.tmp 5)))⟩
  (.op ⟨(some 7), none, (.p (.val (.con (.int .i64 0))))⟩
  .done))))
 (.block 0 (.loop (.seq (.ops [] (.op ⟨(some 8), none, (.p (.bin .lss (.tmp 7) (.tmp 6)))⟩
  .done))
 (.seq (.cond (.tmp 8)
 .skip
 (.exit 0))
 (.seq (.block 1 (.seq (.ops [] (.op ⟨(some 9), none, (.p (.val (.tmp 7)))⟩
  (.op ⟨(some 10), none, (.p (.iaddr 2 (.tmp 5) (.tmp 7)))⟩
  (.op ⟨(some 11), none, (.p (.loadi true 2 (.tmp 10)))⟩
  (.op ⟨(some 4), none, (.alloc [(.int .i64 0), (.int .u64 0)])⟩
  (.op ⟨(some 3), none, (.p (.val (.tmp 9)))⟩
  (.op ⟨(some 4), none, (.storef 4 2 (.tmp 11))⟩
  .done)))))))
 (.seq (.ops [] (.op ⟨(some 12), none, (.p (.faddr 0 (.tmp 4)))⟩
  (.op ⟨(some 13), none, (.p (.loadi false 1 (.tmp 12)))⟩
  (.op ⟨(some 14), none, (.call 62 [(.tmp 13)])⟩
  (.op ⟨(some 15), none, (.p (.un .not (.tmp 14)))⟩
  (.op ⟨(some 16), none, (.p (.val (.tmp 15)))⟩
  (.op ⟨(some 17), (some (16, false)), (.p (.val (.tmp 3)))⟩
  (.op ⟨(some 18), (some (16, false)), (.p (.bin .gtr (.tmp 17) (.con (.int .i64 0))))⟩
  (.op ⟨(some 19), (some (16, false)), (.p (.val (.tmp 18)))⟩
  (.op ⟨(some 20), (some (19, true)), (.p (.faddr 0 (.tmp 4)))⟩
  (.op ⟨(some 21), (some (19, true)), (.p (.loadi false 1 (.tmp 20)))⟩
  (.op ⟨(some 22), (some (19, true)), (.p (.val (.tmp 0)))⟩
  (.op ⟨(some 23), (some (19, true)), (.p (.val (.tmp 3)))⟩
  (.op ⟨(some 24), (some (19, true)), (.p (.bin .sub (.tmp 23) (.con (.int .i64 1))))⟩
  (.op ⟨(some 25), (some (19, true)), (.p (.iaddr 2 (.tmp 22) (.tmp 24)))⟩
  (.op ⟨(some 26), (some (19, true)), (.p (.faddr 0 (.tmp 25)))⟩
  (.op ⟨(some 27), (some (19, true)), (.p (.loadi false 1 (.tmp 26)))⟩
  (.op ⟨(some 28), (some (19, true)), (.p (.bin .leq (.tmp 21) (.tmp 27)))⟩
  (.op ⟨(some 29), (some (16, false)), (.p (.pick (.tmp 19) (.tmp 28) (.con (.bool false))))⟩
  (.op ⟨(some 30), none, (.p (.pick (.tmp 16) (.con (.bool true)) (.tmp 29)))⟩
  .done))))))))))))))))))))
 (.cond (.tmp 30)
 (.seq (.ops [] (.op ⟨(some 2), none, (.p (.val (.con (.bool false))))⟩
  .done))
 .ret)
 .skip))))
 (.ops [] (.op ⟨(some 31), none, (.p (.bin .add (.tmp 7) (.con (.int .i64 1))))⟩
  (.op ⟨(some 7), none, (.p (.val (.tmp 31)))⟩
  .done)))))))))
 (.seq (.ops [] (.op ⟨(some 2), none, (.p (.val (.con (.bool true))))⟩
  .done))
 .ret)))⟩
theorem i47_is : compFunc Tryd.prog ⟨[4], [], [4, 10, 12, 20, 25, 26]⟩ [] 47 = some i47 := by kernel_rfl

/-- baton/bits.PutText -/
def i48 : IFn := ⟨2, 12, [.tmp 4],
 (.seq (.ops [] (.op ⟨(some 4), none, (.p (.val (.con (.slice true 1 [] .full))))⟩
  .done))
 (.seq (.ops [] (.op ⟨(some 5), none, (.p (.val (.tmp 0)))⟩
  (.op ⟨(some 6), none, (.p (.val (.tmp 1)))⟩
  (.op ⟨(some 7), none, (.p (.lens (.tmp 6)))⟩
  (.op ⟨(some 8), none, (.p (.cvi .u64 (.tmp 7)))⟩
  (.op ⟨(some 9), none, (.call 63 [(.tmp 5), (.tmp 8)])⟩
  (.op ⟨(some 10), none, (.p (.val (.tmp 1)))⟩
  (.op ⟨(some 11), none, (.append 1 1 (.tmp 9) (.tmp 10))⟩
  (.op ⟨(some 4), none, (.p (.val (.tmp 11)))⟩
  .done)))))))))
 .ret))⟩
theorem i48_is : compFunc Tryd.prog ⟨[], [], []⟩ [] 48 = some i48 := by kernel_rfl

/-- slices.Collect[baton/fence.place] -/
def i49 : IFn := ⟨1, 5, [.tmp 2],
 (.seq (.ops [] (.op ⟨(some 2), none, (.p (.val (.con (.slice true 2 [] .full))))⟩
  .done))
 (.seq (.ops [] (.op ⟨(some 3), none, (.p (.val (.tmp 0)))⟩
  (.op ⟨(some 4), none, (.call 64 [(.con (.slice true 2 [] .full)), (.tmp 3)])⟩
  (.op ⟨(some 2), none, (.p (.val (.tmp 4)))⟩
  .done))))
 .ret))⟩
theorem i49_is : compFunc Tryd.prog ⟨[], [], []⟩ [] 49 = some i49 := by kernel_rfl

/-- slices.SortFunc[[]baton/fence.place,baton/fence.place] -/
def i50 : IFn := ⟨2, 14, [],
 (.seq (.ops [] (.op ⟨(some 5), none, (.p (.val (.tmp 0)))⟩
  (.op ⟨(some 6), none, (.p (.lenl (.tmp 5)))⟩
  (.op ⟨(some 4), none, (.p (.val (.tmp 6)))⟩
  .done))))
 (.ops [] (.op ⟨(some 7), none, (.p (.val (.tmp 0)))⟩
  (.op ⟨(some 8), none, (.p (.val (.tmp 4)))⟩
  (.op ⟨(some 9), none, (.p (.val (.tmp 4)))⟩
  (.op ⟨(some 10), none, (.p (.cvi .u64 (.tmp 9)))⟩
  (.op ⟨(some 11), none, (.call 66 [(.tmp 10)])⟩
  (.op ⟨(some 12), none, (.p (.val (.tmp 1)))⟩
  (.op ⟨(some 13), none, (.call 65 [(.tmp 7), (.con (.int .i64 0)), (.tmp 8), (.tmp 11), (.tmp 12)])⟩
  .done)))))))))⟩
theorem i50_is : compFunc Tryd.prog ⟨[], [], []⟩ [] 50 = some i50 := by kernel_rfl

/-- maps.Keys[map[baton/fence.place]int64,baton/fence.place,int64]$1 -/
def i51 : IFn := ⟨1, 14, [],
 (.seq (.ops [] (.op ⟨(some 4), none, (.load false 1 (.tmp 1))⟩
  (.op ⟨(some 5), none, (.mrng (.tmp 4))⟩
  .done)))
 (.block 0 (.loop (.seq (.ops [] (.op ⟨(some 6), none, (.mnxt (.tmp 5))⟩
  (.op ⟨(some 7), none, (.p (.ext 0 (.tmp 6)))⟩
  .done)))
 (.seq (.cond (.tmp 7)
 .skip
 (.exit 0))
 (.block 1 (.seq (.ops [] (.op ⟨(some 8), none, (.mentry (.tmp 5))⟩
  (.op ⟨(some 9), none, (.p (.ext 0 (.tmp 8)))⟩
  (.op ⟨(some 3), none, (.alloc [(.str []), (.str [])])⟩
  (.op ⟨(some 3), none, (.storef 3 2 (.tmp 9))⟩
  .done)))))
 (.seq (.ops [] (.op ⟨(some 10), none, (.p (.val (.tmp 0)))⟩
  (.op ⟨(some 11), none, (.p (.loadi true 2 (.tmp 3)))⟩
  (.op ⟨(some 12), none, (.callv (.tmp 10) [(.tmp 11)])⟩
  (.op ⟨(some 13), none, (.p (.un .not (.tmp 12)))⟩
  .done)))))
 (.cond (.tmp 13)
 .ret
 .skip)))))))))⟩
theorem i51_is : compFunc Tryd.prog ⟨[3], [], [3]⟩ [] 51 = some i51 := by kernel_rfl

/-- cmp.Or[int] -/
def i52 : IFn := ⟨1, 18, [.tmp 2],
 (.seq (.ops [] (.op ⟨(some 2), none, (.p (.val (.con (.int .i64 0))))⟩
  .done))
 (.seq (.ops [] (.op ⟨(some 3), none, (.p (.val (.con (.int .i64 0))))⟩
  .done))
 (.seq (.seq (.ops [] (.op ⟨(some 6), none, (.p (.val (.tmp 0)))⟩
  (.op ⟨(some 7), none, (.p (.lenl (.tmp 6)))⟩
  (.op ⟨(some 8), none, (.p (.val (.con (.int .i64 0))))⟩
  .done))))
 (.block 0 (.loop (.seq (.ops [] (.op ⟨(some 9), none, (.p (.bin .lss (.tmp 8) (.tmp 7)))⟩
  .done))
 (.seq (.cond (.tmp 9)
 .skip
 (.exit 0))
 (.seq (.block 1 (.seq (.ops [] (.op ⟨(some 10), none, (.p (.iaddr 1 (.tmp 6) (.tmp 8)))⟩
  (.op ⟨(some 11), none, (.p (.loadi false 1 (.tmp 10)))⟩
  (.op ⟨(some 5), none, (.p (.val (.tmp 11)))⟩
  .done))))
 (.seq (.ops [] (.op ⟨(some 12), none, (.p (.val (.tmp 5)))⟩
  (.op ⟨(some 13), none, (.p (.val (.tmp 3)))⟩
  (.op ⟨(some 14), none, (.p (.bin .neq (.tmp 12) (.tmp 13)))⟩
  .done))))
 (.cond (.tmp 14)
 (.seq (.ops [] (.op ⟨(some 15), none, (.p (.val (.tmp 5)))⟩
  (.op ⟨(some 2), none, (.p (.val (.tmp 15)))⟩
  .done)))
 .ret)
 .skip))))
 (.ops [] (.op ⟨(some 16), none, (.p (.bin .add (.tmp 8) (.con (.int .i64 1))))⟩
  (.op ⟨(some 8), none, (.p (.val (.tmp 16)))⟩
  .done)))))))))
 (.seq (.ops [] (.op ⟨(some 17), none, (.p (.val (.tmp 3)))⟩
  (.op ⟨(some 2), none, (.p (.val (.tmp 17)))⟩
  .done)))
 .ret))))⟩
theorem i52_is : compFunc Tryd.prog ⟨[], [], [10]⟩ [] 52 = some i52 := by kernel_rfl

/-- cmp.Compare[string] -/
def i53 : IFn := ⟨2, 20, [.tmp 4],
 (.seq (.ops [] (.op ⟨(some 4), none, (.p (.val (.con (.int .i64 0))))⟩
  .done))
 (.seq (.ops [] (.op ⟨(some 7), none, (.p (.val (.tmp 0)))⟩
  (.op ⟨(some 8), none, (.call 67 [(.tmp 7)])⟩
  (.op ⟨(some 5), none, (.p (.val (.tmp 8)))⟩
  .done))))
 (.seq (.ops [] (.op ⟨(some 9), none, (.p (.val (.tmp 1)))⟩
  (.op ⟨(some 10), none, (.call 67 [(.tmp 9)])⟩
  (.op ⟨(some 6), none, (.p (.val (.tmp 10)))⟩
  .done))))
 (.seq (.seq (.ops [] (.op ⟨(some 11), none, (.p (.val (.tmp 5)))⟩
  .done))
 (.cond (.tmp 11)
 (.seq (.seq (.ops [] (.op ⟨(some 12), none, (.p (.val (.tmp 6)))⟩
  .done))
 (.cond (.tmp 12)
 (.seq (.ops [] (.op ⟨(some 4), none, (.p (.val (.con (.int .i64 0))))⟩
  .done))
 .ret)
 .skip))
 (.seq (.ops [] (.op ⟨(some 4), none, (.p (.val (.con (.int .i64 (-1)))))⟩
  .done))
 .ret))
 .skip))
 (.seq (.seq (.ops [] (.op ⟨(some 13), none, (.p (.val (.tmp 6)))⟩
  .done))
 (.cond (.tmp 13)
 (.seq (.ops [] (.op ⟨(some 4), none, (.p (.val (.con (.int .i64 1))))⟩
  .done))
 .ret)
 .skip))
 (.seq (.seq (.ops [] (.op ⟨(some 14), none, (.p (.val (.tmp 0)))⟩
  (.op ⟨(some 15), none, (.p (.val (.tmp 1)))⟩
  (.op ⟨(some 16), none, (.p (.bin .lss (.tmp 14) (.tmp 15)))⟩
  .done))))
 (.cond (.tmp 16)
 (.seq (.ops [] (.op ⟨(some 4), none, (.p (.val (.con (.int .i64 (-1)))))⟩
  .done))
 .ret)
 .skip))
 (.seq (.seq (.ops [] (.op ⟨(some 17), none, (.p (.val (.tmp 0)))⟩
  (.op ⟨(some 18), none, (.p (.val (.tmp 1)))⟩
  (.op ⟨(some 19), none, (.p (.bin .gtr (.tmp 17) (.tmp 18)))⟩
  .done))))
 (.cond (.tmp 19)
 (.seq (.ops [] (.op ⟨(some 4), none, (.p (.val (.con (.int .i64 1))))⟩
  .done))
 .ret)
 .skip))
 (.seq (.ops [] (.op ⟨(some 4), none, (.p (.val (.con (.int .i64 0))))⟩
  .done))
 .ret))))))))⟩
theorem i53_is : compFunc Tryd.prog ⟨[], [], []⟩ [] 53 = some i53 := by kernel_rfl

/-- maps.Keys[map[baton/fence.place]baton/fence.own,baton/fence.place,baton/fence.own]$1 -/
def i54 : IFn := ⟨1, 14, [],
 (.seq (.ops [] (.op ⟨(some 4), none, (.load false 1 (.tmp 1))⟩
  (.op ⟨(some 5), none, (.mrng (.tmp 4))⟩
  .done)))
 (.block 0 (.loop (.seq (.ops [] (.op ⟨(some 6), none, (.mnxt (.tmp 5))⟩
  (.op ⟨(some 7), none, (.p (.ext 0 (.tmp 6)))⟩
  .done)))
 (.seq (.cond (.tmp 7)
 .skip
 (.exit 0))
 (.block 1 (.seq (.ops [] (.op ⟨(some 8), none, (.mentry (.tmp 5))⟩
  (.op ⟨(some 9), none, (.p (.ext 0 (.tmp 8)))⟩
  (.op ⟨(some 3), none, (.alloc [(.str []), (.str [])])⟩
  (.op ⟨(some 3), none, (.storef 3 2 (.tmp 9))⟩
  .done)))))
 (.seq (.ops [] (.op ⟨(some 10), none, (.p (.val (.tmp 0)))⟩
  (.op ⟨(some 11), none, (.p (.loadi true 2 (.tmp 3)))⟩
  (.op ⟨(some 12), none, (.callv (.tmp 10) [(.tmp 11)])⟩
  (.op ⟨(some 13), none, (.p (.un .not (.tmp 12)))⟩
  .done)))))
 (.cond (.tmp 13)
 .ret
 .skip)))))))))⟩
theorem i54_is : compFunc Tryd.prog ⟨[3], [], [3]⟩ [] 54 = some i54 := by kernel_rfl

/-- baton/keys.all -/
def i56 : IFn := ⟨3, 24, [.tmp 6],
 (.seq (.ops [] (.op ⟨(some 6), none, (.p (.val (.con (.bool false))))⟩
  .done))
 (.seq (.seq (.ops [] (.op ⟨(some 8), none, (.p (.val (.tmp 0)))⟩
  (.op ⟨(some 9), none, (.p (.lens (.tmp 8)))⟩
  (.op ⟨(some 10), none, (.p (.val (.con (.int .i64 0))))⟩
  .done))))
 (.block 0 (.loop (.seq (.ops [] (.op ⟨(some 11), none, (.p (.bin .lss (.tmp 10) (.tmp 9)))⟩
  .done))
 (.seq (.cond (.tmp 11)
 .skip
 (.exit 0))
 (.seq (.block 1 (.seq (.ops [] (.op ⟨(some 12), none, (.p (.val (.tmp 10)))⟩
  (.op ⟨(some 7), none, (.p (.val (.tmp 12)))⟩
  .done)))
 (.seq (.ops [] (.op ⟨(some 13), none, (.p (.val (.tmp 0)))⟩
  (.op ⟨(some 14), none, (.p (.val (.tmp 7)))⟩
  (.op ⟨(some 15), none, (.p (.idxs (.tmp 13) (.tmp 14)))⟩
  (.op ⟨(some 16), none, (.call 68 [(.tmp 15)])⟩
  (.op ⟨(some 17), none, (.p (.val (.tmp 1)))⟩
  (.op ⟨(some 18), none, (.p (.bin .lss (.tmp 16) (.tmp 17)))⟩
  .done)))))))
 (.cond (.tmp 18)
 (.seq (.ops [] (.op ⟨(some 6), none, (.p (.val (.con (.bool false))))⟩
  .done))
 .ret)
 .skip))))
 (.ops [] (.op ⟨(some 19), none, (.p (.bin .add (.tmp 10) (.con (.int .i64 1))))⟩
  (.op ⟨(some 10), none, (.p (.val (.tmp 19)))⟩
  .done)))))))))
 (.seq (.ops [] (.op ⟨(some 20), none, (.p (.val (.tmp 0)))⟩
  (.op ⟨(some 21), none, (.p (.lens (.tmp 20)))⟩
  (.op ⟨(some 22), none, (.p (.val (.tmp 2)))⟩
  (.op ⟨(some 23), none, (.p (.bin .leq (.tmp 21) (.tmp 22)))⟩
  (.op ⟨(some 6), none, (.p (.val (.tmp 23)))⟩
  .done))))))
 .ret)))⟩
theorem i56_is : compFunc Tryd.prog ⟨[], [], []⟩ [] 56 = some i56 := by kernel_rfl

/-- slices.IndexFunc[[]baton/api.Series,baton/api.Series] -/
def i57 : IFn := ⟨2, 19, [.tmp 4],
 (.seq (.ops [] (.op ⟨(some 4), none, (.p (.val (.con (.int .i64 0))))⟩
  .done))
 (.seq (.seq (.ops [] (.op ⟨(some 6), none, (.p (.val (.tmp 0)))⟩
  (.op ⟨(some 7), none, (.p (.lenl (.tmp 6)))⟩
  (.op ⟨(some 8), none, (.p (.val (.con (.int .i64 0))))⟩
  .done))))
 (.block 0 (.loop (.seq (.ops [] (.op ⟨(some 9), none, (.p (.bin .lss (.tmp 8) (.tmp 7)))⟩
  .done))
 (.seq (.cond (.tmp 9)
 .skip
 (.exit 0))
 (.seq (.block 1 (.seq (.ops [] (.op ⟨(some 10), none, (.p (.val (.tmp 8)))⟩
  (.op ⟨(some 5), none, (.p (.val (.tmp 10)))⟩
  .done)))
 (.seq (.ops [] (.op ⟨(some 11), none, (.p (.val (.tmp 1)))⟩
  (.op ⟨(some 12), none, (.p (.val (.tmp 0)))⟩
  (.op ⟨(some 13), none, (.p (.val (.tmp 5)))⟩
  (.op ⟨(some 14), none, (.p (.iaddr 2 (.tmp 12) (.tmp 13)))⟩
  (.op ⟨(some 15), none, (.p (.loadi true 2 (.tmp 14)))⟩
  (.op ⟨(some 16), none, (.callv (.tmp 11) [(.tmp 15)])⟩
  .done)))))))
 (.cond (.tmp 16)
 (.seq (.ops [] (.op ⟨(some 17), none, (.p (.val (.tmp 5)))⟩
  (.op ⟨(some 4), none, (.p (.val (.tmp 17)))⟩
  .done)))
 .ret)
 .skip))))
 (.ops [] (.op ⟨(some 18), none, (.p (.bin .add (.tmp 8) (.con (.int .i64 1))))⟩
  (.op ⟨(some 8), none, (.p (.val (.tmp 18)))⟩
  .done)))))))))
 (.seq (.ops [] (.op ⟨(some 4), none, (.p (.val (.con (.int .i64 (-1)))))⟩
  .done))
 .ret)))⟩
theorem i57_is : compFunc Tryd.prog ⟨[], [], [14]⟩ [] 57 = some i57 := by kernel_rfl

/-- baton/labels.MayName -/
def i58 : IFn := ⟨1, 24, [.tmp 2],
 (.seq (.ops [] (.op ⟨(some 2), none, (.p (.val (.con (.bool false))))⟩
  .done))
 (.seq (.seq (.ops [] (.op ⟨(some 4), none, (.p (.val (.tmp 0)))⟩
  (.op ⟨(some 5), none, (.p (.lens (.tmp 4)))⟩
  (.op ⟨(some 6), none, (.p (.val (.con (.int .i64 0))))⟩
  .done))))
 (.block 0 (.loop (.seq (.ops [] (.op ⟨(some 7), none, (.p (.bin .lss (.tmp 6) (.tmp 5)))⟩
  .done))
 (.seq (.cond (.tmp 7)
 .skip
 (.exit 0))
 (.seq (.block 1 (.seq (.ops [] (.op ⟨(some 8), none, (.p (.val (.tmp 6)))⟩
  (.op ⟨(some 3), none, (.p (.val (.tmp 8)))⟩
  .done)))
 (.seq (.ops [] (.op ⟨(some 9), none, (.p (.val (.tmp 0)))⟩
  (.op ⟨(some 10), none, (.p (.val (.tmp 3)))⟩
  (.op ⟨(some 11), none, (.p (.idxs (.tmp 9) (.tmp 10)))⟩
  (.op ⟨(some 12), none, (.p (.val (.tmp 3)))⟩
  (.op ⟨(some 13), none, (.p (.bin .eql (.tmp 12) (.con (.int .i64 0))))⟩
  (.op ⟨(some 14), none, (.call 69 [(.tmp 11), (.tmp 13)])⟩
  (.op ⟨(some 15), none, (.p (.un .not (.tmp 14)))⟩
  .done))))))))
 (.cond (.tmp 15)
 (.seq (.ops [] (.op ⟨(some 2), none, (.p (.val (.con (.bool false))))⟩
  .done))
 .ret)
 .skip))))
 (.ops [] (.op ⟨(some 16), none, (.p (.bin .add (.tmp 6) (.con (.int .i64 1))))⟩
  (.op ⟨(some 6), none, (.p (.val (.tmp 16)))⟩
  .done)))))))))
 (.seq (.ops [] (.op ⟨(some 17), none, (.p (.val (.tmp 0)))⟩
  (.op ⟨(some 18), none, (.p (.bin .neq (.tmp 17) (.con (.str []))))⟩
  (.op ⟨(some 19), none, (.p (.val (.tmp 18)))⟩
  (.op ⟨(some 20), (some (19, true)), (.p (.val (.tmp 0)))⟩
  (.op ⟨(some 21), (some (19, true)), (.p (.lens (.tmp 20)))⟩
  (.op ⟨(some 22), (some (19, true)), (.p (.bin .leq (.tmp 21) (.con (.int .i64 64))))⟩
  (.op ⟨(some 23), none, (.p (.pick (.tmp 19) (.tmp 22) (.con (.bool false))))⟩
  (.op ⟨(some 2), none, (.p (.val (.tmp 23)))⟩
  .done)))))))))
 .ret)))⟩
theorem i58_is : compFunc Tryd.prog ⟨[], [], []⟩ [] 58 = some i58 := by kernel_rfl

/-- baton/labels.MayValue -/
def i59 : IFn := ⟨1, 29, [.tmp 2],
 (.seq (.ops [] (.op ⟨(some 2), none, (.p (.val (.con (.bool false))))⟩
  .done))
 (.seq (.ops [] (.op ⟨(some 3), none, (.p (.val (.con (.int .i64 0))))⟩
  .done))
 (.seq (.seq (.ops [] (.op ⟨(some 6), none, (.p (.val (.tmp 0)))⟩
  (.op ⟨(some 7), none, (.rng (.tmp 6))⟩
  .done)))
 (.block 0 (.loop (.seq (.ops [] (.op ⟨(some 8), none, (.nxt (.tmp 7))⟩
  (.op ⟨(some 9), none, (.p (.ext 0 (.tmp 8)))⟩
  .done)))
 (.seq (.cond (.tmp 9)
 .skip
 (.exit 0))
 (.block 1 (.seq (.ops [] (.op ⟨(some 10), none, (.p (.ext 2 (.tmp 8)))⟩
  (.op ⟨(some 5), none, (.p (.val (.tmp 10)))⟩
  .done)))
 (.seq (.ops [] (.op ⟨(some 11), none, (.p (.val (.tmp 3)))⟩
  (.op ⟨(some 12), none, (.p (.bin .add (.tmp 11) (.con (.int .i64 1))))⟩
  (.op ⟨(some 3), none, (.p (.val (.tmp 12)))⟩
  .done))))
 (.seq (.ops [] (.op ⟨(some 13), none, (.p (.val (.tmp 3)))⟩
  (.op ⟨(some 14), none, (.p (.bin .gtr (.tmp 13) (.con (.int .i64 64))))⟩
  (.op ⟨(some 15), none, (.p (.val (.tmp 14)))⟩
  (.op ⟨(some 16), (some (15, false)), (.p (.val (.tmp 5)))⟩
  (.op ⟨(some 17), (some (15, false)), (.p (.bin .lss (.tmp 16) (.con (.int .i32 32))))⟩
  (.op ⟨(some 18), none, (.p (.pick (.tmp 15) (.con (.bool true)) (.tmp 17)))⟩
  (.op ⟨(some 19), none, (.p (.val (.tmp 18)))⟩
  (.op ⟨(some 20), (some (19, false)), (.p (.val (.tmp 5)))⟩
  (.op ⟨(some 21), (some (19, false)), (.p (.bin .eql (.tmp 20) (.con (.int .i32 127))))⟩
  (.op ⟨(some 22), none, (.p (.pick (.tmp 19) (.con (.bool true)) (.tmp 21)))⟩
  .done)))))))))))
 (.cond (.tmp 22)
 (.seq (.ops [] (.op ⟨(some 2), none, (.p (.val (.con (.bool false))))⟩
  .done))
 .ret)
 .skip))))))))))
 (.seq (.ops [] (.op ⟨(some 23), none, (.p (.val (.tmp 3)))⟩
  (.op ⟨(some 24), none, (.p (.bin .gtr (.tmp 23) (.con (.int .i64 0))))⟩
  (.op ⟨(some 25), none, (.p (.val (.tmp 24)))⟩
  (.op ⟨(some 26), (some (25, true)), (.p (.val (.tmp 0)))⟩
  (.op ⟨(some 27), (some (25, true)), (.call 70 [(.tmp 26)])⟩
  (.op ⟨(some 28), none, (.p (.pick (.tmp 25) (.tmp 27) (.con (.bool false))))⟩
  (.op ⟨(some 2), none, (.p (.val (.tmp 28)))⟩
  .done))))))))
 .ret))))⟩
theorem i59_is : compFunc Tryd.prog ⟨[], [], []⟩ [] 59 = some i59 := by kernel_rfl

/-- slices.IndexFunc[[]baton/api.Sample,baton/api.Sample] -/
def i60 : IFn := ⟨2, 19, [.tmp 4],
 (.seq (.ops [] (.op ⟨(some 4), none, (.p (.val (.con (.int .i64 0))))⟩
  .done))
 (.seq (.seq (.ops [] (.op ⟨(some 6), none, (.p (.val (.tmp 0)))⟩
  (.op ⟨(some 7), none, (.p (.lenl (.tmp 6)))⟩
  (.op ⟨(some 8), none, (.p (.val (.con (.int .i64 0))))⟩
  .done))))
 (.block 0 (.loop (.seq (.ops [] (.op ⟨(some 9), none, (.p (.bin .lss (.tmp 8) (.tmp 7)))⟩
  .done))
 (.seq (.cond (.tmp 9)
 .skip
 (.exit 0))
 (.seq (.block 1 (.seq (.ops [] (.op ⟨(some 10), none, (.p (.val (.tmp 8)))⟩
  (.op ⟨(some 5), none, (.p (.val (.tmp 10)))⟩
  .done)))
 (.seq (.ops [] (.op ⟨(some 11), none, (.p (.val (.tmp 1)))⟩
  (.op ⟨(some 12), none, (.p (.val (.tmp 0)))⟩
  (.op ⟨(some 13), none, (.p (.val (.tmp 5)))⟩
  (.op ⟨(some 14), none, (.p (.iaddr 2 (.tmp 12) (.tmp 13)))⟩
  (.op ⟨(some 15), none, (.p (.loadi true 2 (.tmp 14)))⟩
  (.op ⟨(some 16), none, (.callv (.tmp 11) [(.tmp 15)])⟩
  .done)))))))
 (.cond (.tmp 16)
 (.seq (.ops [] (.op ⟨(some 17), none, (.p (.val (.tmp 5)))⟩
  (.op ⟨(some 4), none, (.p (.val (.tmp 17)))⟩
  .done)))
 .ret)
 .skip))))
 (.ops [] (.op ⟨(some 18), none, (.p (.bin .add (.tmp 8) (.con (.int .i64 1))))⟩
  (.op ⟨(some 8), none, (.p (.val (.tmp 18)))⟩
  .done)))))))))
 (.seq (.ops [] (.op ⟨(some 4), none, (.p (.val (.con (.int .i64 (-1)))))⟩
  .done))
 .ret)))⟩
theorem i60_is : compFunc Tryd.prog ⟨[], [], [14]⟩ [] 60 = some i60 := by kernel_rfl

/-- baton/series.judge -/
def i61 : IFn := ⟨2, 38, [.tmp 4],
 (.seq (.ops [] (.op ⟨(some 3), none, (.p (.boxi (.tmp 1)))⟩
  (.op ⟨(some 4), none, (.p (.val (.con (.int .u8 0))))⟩
  .done)))
 (.seq (.ops [] (.op ⟨(some 8), none, (.p (.val (.tmp 0)))⟩
  (.op ⟨(some 9), none, (.p (.faddr 0 (.tmp 3)))⟩
  (.op ⟨(some 10), none, (.p (.loadi false 1 (.tmp 9)))⟩
  (.op ⟨(some 11), none, (.call 71 [(.tmp 8), (.tmp 10)])⟩
  (.op ⟨(some 7), none, (.p (.val (.tmp 11)))⟩
  (.op ⟨(some 12), none, (.p (.ext 0 (.tmp 7)))⟩
  (.op ⟨(some 13), none, (.p (.ext 1 (.tmp 7)))⟩
  (.op ⟨(some 5), none, (.p (.val (.tmp 12)))⟩
  (.op ⟨(some 6), none, (.p (.val (.tmp 13)))⟩
  .done))))))))))
 (.seq (.block 0 (.seq (.ops [] (.op ⟨(some 15), none, (.p (.faddr 0 (.tmp 3)))⟩
  (.op ⟨(some 16), none, (.p (.loadi false 1 (.tmp 15)))⟩
  (.op ⟨(some 17), none, (.call 62 [(.tmp 16)])⟩
  (.op ⟨(some 18), none, (.p (.un .not (.tmp 17)))⟩
  (.op ⟨(some 14), none, (.p (.val (.tmp 18)))⟩
  .done))))))
 (.cond (.tmp 14)
 (.seq (.ops [] (.op ⟨(some 4), none, (.p (.val (.con (.int .u8 4))))⟩
  .done))
 .ret)
 (.seq (.ops [] (.op ⟨(some 20), none, (.p (.val (.tmp 6)))⟩
  (.op ⟨(some 21), none, (.p (.val (.tmp 20)))⟩
  (.op ⟨(some 22), (some (21, true)), (.p (.val (.tmp 0)))⟩
  (.op ⟨(some 23), (some (21, true)), (.p (.val (.tmp 5)))⟩
  (.op ⟨(some 24), (some (21, true)), (.p (.iaddr 2 (.tmp 22) (.tmp 23)))⟩
  (.op ⟨(some 25), (some (21, true)), (.p (.faddr 1 (.tmp 24)))⟩
  (.op ⟨(some 26), (some (21, true)), (.p (.loadi false 1 (.tmp 25)))⟩
  (.op ⟨(some 27), (some (21, true)), (.p (.faddr 1 (.tmp 3)))⟩
  (.op ⟨(some 28), (some (21, true)), (.p (.loadi false 1 (.tmp 27)))⟩
  (.op ⟨(some 29), (some (21, true)), (.p (.bin .eql (.tmp 26) (.tmp 28)))⟩
  (.op ⟨(some 30), none, (.p (.pick (.tmp 21) (.tmp 29) (.con (.bool false))))⟩
  (.op ⟨(some 19), none, (.p (.val (.tmp 30)))⟩
  .done)))))))))))))
 (.cond (.tmp 19)
 (.seq (.ops [] (.op ⟨(some 4), none, (.p (.val (.con (.int .u8 2))))⟩
  .done))
 .ret)
 (.seq (.ops [] (.op ⟨(some 32), none, (.p (.val (.tmp 6)))⟩
  (.op ⟨(some 31), none, (.p (.val (.tmp 32)))⟩
  .done)))
 (.cond (.tmp 31)
 (.seq (.ops [] (.op ⟨(some 4), none, (.p (.val (.con (.int .u8 3))))⟩
  .done))
 .ret)
 (.seq (.ops [] (.op ⟨(some 34), none, (.p (.val (.tmp 5)))⟩
  (.op ⟨(some 35), none, (.p (.val (.tmp 0)))⟩
  (.op ⟨(some 36), none, (.p (.lenl (.tmp 35)))⟩
  (.op ⟨(some 37), none, (.p (.bin .lss (.tmp 34) (.tmp 36)))⟩
  (.op ⟨(some 33), none, (.p (.val (.tmp 37)))⟩
  .done))))))
 (.cond (.tmp 33)
 (.seq (.ops [] (.op ⟨(some 4), none, (.p (.val (.con (.int .u8 4))))⟩
  .done))
 .ret)
 .skip)))))))))
 (.seq (.ops [] (.op ⟨(some 4), none, (.p (.val (.con (.int .u8 1))))⟩
  .done))
 .ret))))⟩
theorem i61_is : compFunc Tryd.prog ⟨[], [3], [3, 9, 15, 24, 27, 25]⟩ [] 61 = some i61 := by kernel_rfl

/-- baton/series.mayTime -/
def i62 : IFn := ⟨1, 9, [.tmp 2],
 (.seq (.ops [] (.op ⟨(some 2), none, (.p (.val (.con (.bool false))))⟩
  .done))
 (.seq (.ops [] (.op ⟨(some 3), none, (.p (.val (.tmp 0)))⟩
  (.op ⟨(some 4), none, (.p (.bin .geq (.tmp 3) (.con (.int .i64 0))))⟩
  (.op ⟨(some 5), none, (.p (.val (.tmp 4)))⟩
  (.op ⟨(some 6), (some (5, true)), (.p (.val (.tmp 0)))⟩
  (.op ⟨(some 7), (some (5, true)), (.p (.bin .leq (.tmp 6) (.con (.int .i64 1125899906842624))))⟩
  (.op ⟨(some 8), none, (.p (.pick (.tmp 5) (.tmp 7) (.con (.bool false))))⟩
  (.op ⟨(some 2), none, (.p (.val (.tmp 8)))⟩
  .done))))))))
 .ret))⟩
theorem i62_is : compFunc Tryd.prog ⟨[], [], []⟩ [] 62 = some i62 := by kernel_rfl

/-- baton/bits.PutUvarint -/
def i63 : IFn := ⟨2, 20, [.tmp 4],
 (.seq (.ops [] (.op ⟨(some 4), none, (.p (.val (.con (.slice true 1 [] .full))))⟩
  .done))
 (.seq (.block 0 (.loop (.seq (.seq (.ops [] (.op ⟨(some 5), none, (.p (.val (.tmp 1)))⟩
  (.op ⟨(some 6), none, (.p (.bin .geq (.tmp 5) (.con (.int .u64 128))))⟩
  .done)))
 (.cond (.tmp 6)
 .skip
 (.exit 0)))
 (.seq (.block 1 (.ops [] (.op ⟨(some 9), none, (.p (.val (.tmp 0)))⟩
  (.op ⟨(some 10), none, (.p (.val (.tmp 1)))⟩
  (.op ⟨(some 11), none, (.p (.cvi .u8 (.tmp 10)))⟩
  (.op ⟨(some 12), none, (.p (.bin .or (.tmp 11) (.con (.int .u8 128))))⟩
  (.op ⟨(some 13), none, (.p (.mks 1 [(.tmp 12)]))⟩
  (.op ⟨(some 14), none, (.append 1 1 (.tmp 9) (.tmp 13))⟩
  (.op ⟨(some 0), none, (.p (.val (.tmp 14)))⟩
  .done)))))))))
 (.ops [] (.op ⟨(some 7), none, (.p (.val (.tmp 1)))⟩
  (.op ⟨(some 8), none, (.p (.bin .shr (.tmp 7) (.con (.int .u64 7))))⟩
  (.op ⟨(some 1), none, (.p (.val (.tmp 8)))⟩
  .done))))))))
 (.seq (.ops [] (.op ⟨(some 15), none, (.p (.val (.tmp 0)))⟩
  (.op ⟨(some 16), none, (.p (.val (.tmp 1)))⟩
  (.op ⟨(some 17), none, (.p (.cvi .u8 (.tmp 16)))⟩
  (.op ⟨(some 18), none, (.p (.mks 1 [(.tmp 17)]))⟩
  (.op ⟨(some 19), none, (.append 1 1 (.tmp 15) (.tmp 18))⟩
  (.op ⟨(some 4), none, (.p (.val (.tmp 19)))⟩
  .done)))))))
 .ret)))⟩
theorem i63_is : compFunc Tryd.prog ⟨[], [], []⟩ [] 63 = some i63 := by kernel_rfl

-- 64 slices.AppendSeq[[]baton/fence.place,baton/fence.place]: BAD

/-- slices.pdqsortCmpFunc[baton/fence.place] -/
def i65 : IFn := ⟨5, 148, [],
 (.seq (.ops [] (.op ⟨(some 10), none, (.p (.val (.con (.bool true))))⟩
  .done))
 (.seq (.ops [] (.op ⟨(some 11), none, (.p (.val (.con (.bool true))))⟩
  .done))
 (.block 0 (.loop (.block 1 (.seq (.ops [] (.op ⟨(some 21), none, (.p (.val (.tmp 2)))⟩
  (.op ⟨(some 22), none, (.p (.val (.tmp 1)))⟩
  (.op ⟨(some 23), none, (.p (.bin .sub (.tmp 21) (.tmp 22)))⟩
  (.op ⟨(some 12), none, (.p (.val (.tmp 23)))⟩
  .done)))))
 (.seq (.seq (.ops [] (.op ⟨(some 24), none, (.p (.val (.tmp 12)))⟩
  (.op ⟨(some 25), none, (.p (.bin .leq (.tmp 24) (.con (.int .i64 12))))⟩
  .done)))
 (.cond (.tmp 25)
 (.seq (.ops [] (.op ⟨(some 26), none, (.p (.val (.tmp 0)))⟩
  (.op ⟨(some 27), none, (.p (.val (.tmp 1)))⟩
  (.op ⟨(some 28), none, (.p (.val (.tmp 2)))⟩
  (.op ⟨(some 29), none, (.p (.val (.tmp 4)))⟩
  (.op ⟨(some 30), none, (.call 72 [(.tmp 26), (.tmp 27), (.tmp 28), (.tmp 29)])⟩
  .done))))))
 .ret)
 .skip))
 (.seq (.seq (.ops [] (.op ⟨(some 31), none, (.p (.val (.tmp 3)))⟩
  (.op ⟨(some 32), none, (.p (.bin .eql (.tmp 31) (.con (.int .i64 0))))⟩
  .done)))
 (.cond (.tmp 32)
 (.seq (.ops [] (.op ⟨(some 33), none, (.p (.val (.tmp 0)))⟩
  (.op ⟨(some 34), none, (.p (.val (.tmp 1)))⟩
  (.op ⟨(some 35), none, (.p (.val (.tmp 2)))⟩
  (.op ⟨(some 36), none, (.p (.val (.tmp 4)))⟩
  (.op ⟨(some 37), none, (.call 73 [(.tmp 33), (.tmp 34), (.tmp 35), (.tmp 36)])⟩
  .done))))))
 .ret)
 .skip))
 (.seq (.seq (.ops [] (.op ⟨(some 38), none, (.p (.val (.tmp 10)))⟩
  (.op ⟨(some 39), none, (.p (.un .not (.tmp 38)))⟩
  .done)))
 (.cond (.tmp 39)
 (.seq (.ops [] (.op ⟨(some 40), none, (.p (.val (.tmp 0)))⟩
  (.op ⟨(some 41), none, (.p (.val (.tmp 1)))⟩
  (.op ⟨(some 42), none, (.p (.val (.tmp 2)))⟩
  (.op ⟨(some 43), none, (.p (.val (.tmp 4)))⟩
  (.op ⟨(some 44), none, (.call 74 [(.tmp 40), (.tmp 41), (.tmp 42), (.tmp 43)])⟩
  .done))))))
 (.ops [] (.op ⟨(some 45), none, (.p (.val (.tmp 3)))⟩
  (.op ⟨(some 46), none, (.p (.bin .sub (.tmp 45) (.con (.int .i64 1))))⟩
  (.op ⟨(some 3), none, (.p (.val (.tmp 46)))⟩
  .done)))))
 .skip))
 (.seq (.ops [] (.op ⟨(some 48), none, (.p (.val (.tmp 0)))⟩
  (.op ⟨(some 49), none, (.p (.val (.tmp 1)))⟩
  (.op ⟨(some 50), none, (.p (.val (.tmp 2)))⟩
  (.op ⟨(some 51), none, (.p (.val (.tmp 4)))⟩
  (.op ⟨(some 52), none, (.call 75 [(.tmp 48), (.tmp 49), (.tmp 50), (.tmp 51)])⟩
  (.op ⟨(some 47), none, (.p (.val (.tmp 52)))⟩
  (.op ⟨(some 53), none, (.p (.ext 0 (.tmp 47)))⟩
  (.op ⟨(some 54), none, (.p (.ext 1 (.tmp 47)))⟩
  (.op ⟨(some 13), none, (.p (.val (.tmp 53)))⟩
  (.op ⟨(some 14), none, (.p (.val (.tmp 54)))⟩
  .done)))))))))))
 (.seq (.seq (.ops [] (.op ⟨(some 55), none, (.p (.val (.tmp 14)))⟩
  (.op ⟨(some 56), none, (.p (.bin .eql (.tmp 55) (.con (.int .i64 2))))⟩
  .done)))
 (.cond (.tmp 56)
 (.seq (.ops [] (.op ⟨(some 57), none, (.p (.val (.tmp 0)))⟩
  (.op ⟨(some 58), none, (.p (.val (.tmp 1)))⟩
  (.op ⟨(some 59), none, (.p (.val (.tmp 2)))⟩
  (.op ⟨(some 60), none, (.p (.val (.tmp 4)))⟩
  (.op ⟨(some 61), none, (.call 76 [(.tmp 57), (.tmp 58), (.tmp 59), (.tmp 60)])⟩
  .done))))))
 (.seq (.ops [] (.op ⟨(some 62), none, (.p (.val (.tmp 2)))⟩
  (.op ⟨(some 63), none, (.p (.bin .sub (.tmp 62) (.con (.int .i64 1))))⟩
  (.op ⟨(some 64), none, (.p (.val (.tmp 13)))⟩
  (.op ⟨(some 65), none, (.p (.val (.tmp 1)))⟩
  (.op ⟨(some 66), none, (.p (.bin .sub (.tmp 64) (.tmp 65)))⟩
  (.op ⟨(some 67), none, (.p (.bin .sub (.tmp 63) (.tmp 66)))⟩
  (.op ⟨(some 13), none, (.p (.val (.tmp 67)))⟩
  .done))))))))
 (.ops [] (.op ⟨(some 14), none, (.p (.val (.con (.int .i64 1))))⟩
  .done))))
 .skip))
 (.seq (.seq (.ops [] (.op ⟨(some 68), none, (.p (.val (.tmp 10)))⟩
  (.op ⟨(some 69), none, (.p (.val (.tmp 68)))⟩
  (.op ⟨(some 70), (some (69, true)), (.p (.val (.tmp 11)))⟩
  (.op ⟨(some 71), none, (.p (.pick (.tmp 69) (.tmp 70) (.con (.bool false))))⟩
  (.op ⟨(some 72), none, (.p (.val (.tmp 71)))⟩
  (.op ⟨(some 73), (some (72, true)), (.p (.val (.tmp 14)))⟩
  (.op ⟨(some 74), (some (72, true)), (.p (.bin .eql (.tmp 73) (.con (.int .i64 1))))⟩
  (.op ⟨(some 75), none, (.p (.pick (.tmp 72) (.tmp 74) (.con (.bool false))))⟩
  .done)))))))))
 (.cond (.tmp 75)
 (.seq (.ops [] (.op ⟨(some 76), none, (.p (.val (.tmp 0)))⟩
  (.op ⟨(some 77), none, (.p (.val (.tmp 1)))⟩
  (.op ⟨(some 78), none, (.p (.val (.tmp 2)))⟩
  (.op ⟨(some 79), none, (.p (.val (.tmp 4)))⟩
  (.op ⟨(some 80), none, (.call 77 [(.tmp 76), (.tmp 77), (.tmp 78), (.tmp 79)])⟩
  .done))))))
 (.cond (.tmp 80)
 .ret
 .skip))
 .skip))
 (.seq (.seq (.ops [] (.op ⟨(some 81), none, (.p (.val (.tmp 1)))⟩
  (.op ⟨(some 82), none, (.p (.bin .gtr (.tmp 81) (.con (.int .i64 0))))⟩
  (.op ⟨(some 83), none, (.p (.val (.tmp 82)))⟩
  (.op ⟨(some 84), (some (83, true)), (.p (.val (.tmp 4)))⟩
  (.op ⟨(some 85), (some (83, true)), (.p (.val (.tmp 0)))⟩
  (.op ⟨(some 86), (some (83, true)), (.p (.val (.tmp 1)))⟩
  (.op ⟨(some 87), (some (83, true)), (.p (.bin .sub (.tmp 86) (.con (.int .i64 1))))⟩
  (.op ⟨(some 88), (some (83, true)), (.p (.iaddr 2 (.tmp 85) (.tmp 87)))⟩
  (.op ⟨(some 89), (some (83, true)), (.p (.loadi true 2 (.tmp 88)))⟩
  (.op ⟨(some 90), (some (83, true)), (.p (.val (.tmp 0)))⟩
  (.op ⟨(some 91), (some (83, true)), (.p (.val (.tmp 13)))⟩
  (.op ⟨(some 92), (some (83, true)), (.p (.iaddr 2 (.tmp 90) (.tmp 91)))⟩
  (.op ⟨(some 93), (some (83, true)), (.p (.loadi true 2 (.tmp 92)))⟩
  (.op ⟨(some 94), (some (83, true)), (.callv (.tmp 84) [(.tmp 89), (.tmp 93)])⟩
  (.op ⟨(some 95), (some (83, true)), (.p (.bin .lss (.tmp 94) (.con (.int .i64 0))))⟩
  (.op ⟨(some 96), (some (83, true)), (.p (.un .not (.tmp 95)))⟩
  (.op ⟨(some 97), none, (.p (.pick (.tmp 83) (.tmp 96) (.con (.bool false))))⟩
  .done))))))))))))))))))
 (.cond (.tmp 97)
 (.seq (.ops [] (.op ⟨(some 98), none, (.p (.val (.tmp 0)))⟩
  (.op ⟨(some 99), none, (.p (.val (.tmp 1)))⟩
  (.op ⟨(some 100), none, (.p (.val (.tmp 2)))⟩
  (.op ⟨(some 101), none, (.p (.val (.tmp 13)))⟩
  (.op ⟨(some 102), none, (.p (.val (.tmp 4)))⟩
  (.op ⟨(some 103), none, (.call 78 [(.tmp 98), (.tmp 99), (.tmp 100), (.tmp 101), (.tmp 102)])⟩
  (.op ⟨(some 15), none, (.p (.val (.tmp 103)))⟩
  .done))))))))
 (.seq (.ops [] (.op ⟨(some 104), none, (.p (.val (.tmp 15)))⟩
  (.op ⟨(some 1), none, (.p (.val (.tmp 104)))⟩
  .done)))
 (.exit 1)))
 .skip))
 (.seq (.ops [] (.op ⟨(some 106), none, (.p (.val (.tmp 0)))⟩
  (.op ⟨(some 107), none, (.p (.val (.tmp 1)))⟩
  (.op ⟨(some 108), none, (.p (.val (.tmp 2)))⟩
  (.op ⟨(some 109), none, (.p (.val (.tmp 13)))⟩
  (.op ⟨(some 110), none, (.p (.val (.tmp 4)))⟩
  (.op ⟨(some 111), none, (.call 79 [(.tmp 106), (.tmp 107), (.tmp 108), (.tmp 109), (.tmp 110)])⟩
  (.op ⟨(some 105), none, (.p (.val (.tmp 111)))⟩
  (.op ⟨(some 112), none, (.p (.ext 0 (.tmp 105)))⟩
  (.op ⟨(some 113), none, (.p (.ext 1 (.tmp 105)))⟩
  (.op ⟨(some 16), none, (.p (.val (.tmp 112)))⟩
  (.op ⟨(some 17), none, (.p (.val (.tmp 113)))⟩
  .done))))))))))))
 (.seq (.ops [] (.op ⟨(some 114), none, (.p (.val (.tmp 17)))⟩
  (.op ⟨(some 11), none, (.p (.val (.tmp 114)))⟩
  .done)))
 (.seq (.ops [] (.op ⟨(some 115), none, (.p (.val (.tmp 16)))⟩
  (.op ⟨(some 116), none, (.p (.val (.tmp 1)))⟩
  (.op ⟨(some 117), none, (.p (.bin .sub (.tmp 115) (.tmp 116)))⟩
  (.op ⟨(some 118), none, (.p (.val (.tmp 2)))⟩
  (.op ⟨(some 119), none, (.p (.val (.tmp 16)))⟩
  (.op ⟨(some 120), none, (.p (.bin .sub (.tmp 118) (.tmp 119)))⟩
  (.op ⟨(some 18), none, (.p (.val (.tmp 117)))⟩
  (.op ⟨(some 19), none, (.p (.val (.tmp 120)))⟩
  .done)))))))))
 (.seq (.ops [] (.op ⟨(some 121), none, (.p (.val (.tmp 12)))⟩
  (.op ⟨(some 122), none, (.p (.bin .quo (.tmp 121) (.con (.int .i64 8))))⟩
  (.op ⟨(some 20), none, (.p (.val (.tmp 122)))⟩
  .done))))
 (.seq (.ops [] (.op ⟨(some 123), none, (.p (.val (.tmp 18)))⟩
  (.op ⟨(some 124), none, (.p (.val (.tmp 19)))⟩
  (.op ⟨(some 125), none, (.p (.bin .lss (.tmp 123) (.tmp 124)))⟩
  .done))))
 (.cond (.tmp 125)
 (.seq (.ops [] (.op ⟨(some 126), none, (.p (.val (.tmp 18)))⟩
  (.op ⟨(some 127), none, (.p (.val (.tmp 20)))⟩
  (.op ⟨(some 128), none, (.p (.bin .geq (.tmp 126) (.tmp 127)))⟩
  (.op ⟨(some 10), none, (.p (.val (.tmp 128)))⟩
  .done)))))
 (.seq (.ops [] (.op ⟨(some 129), none, (.p (.val (.tmp 0)))⟩
  (.op ⟨(some 130), none, (.p (.val (.tmp 1)))⟩
  (.op ⟨(some 131), none, (.p (.val (.tmp 16)))⟩
  (.op ⟨(some 132), none, (.p (.val (.tmp 3)))⟩
  (.op ⟨(some 133), none, (.p (.val (.tmp 4)))⟩
  (.op ⟨(some 134), none, (.call 65 [(.tmp 129), (.tmp 130), (.tmp 131), (.tmp 132), (.tmp 133)])⟩
  .done)))))))
 (.ops [] (.op ⟨(some 135), none, (.p (.val (.tmp 16)))⟩
  (.op ⟨(some 136), none, (.p (.bin .add (.tmp 135) (.con (.int .i64 1))))⟩
  (.op ⟨(some 1), none, (.p (.val (.tmp 136)))⟩
  .done))))))
 (.seq (.ops [] (.op ⟨(some 137), none, (.p (.val (.tmp 19)))⟩
  (.op ⟨(some 138), none, (.p (.val (.tmp 20)))⟩
  (.op ⟨(some 139), none, (.p (.bin .geq (.tmp 137) (.tmp 138)))⟩
  (.op ⟨(some 10), none, (.p (.val (.tmp 139)))⟩
  .done)))))
 (.seq (.ops [] (.op ⟨(some 140), none, (.p (.val (.tmp 0)))⟩
  (.op ⟨(some 141), none, (.p (.val (.tmp 16)))⟩
  (.op ⟨(some 142), none, (.p (.bin .add (.tmp 141) (.con (.int .i64 1))))⟩
  (.op ⟨(some 143), none, (.p (.val (.tmp 2)))⟩
  (.op ⟨(some 144), none, (.p (.val (.tmp 3)))⟩
  (.op ⟨(some 145), none, (.p (.val (.tmp 4)))⟩
  (.op ⟨(some 146), none, (.call 65 [(.tmp 140), (.tmp 142), (.tmp 143), (.tmp 144), (.tmp 145)])⟩
  .done))))))))
 (.ops [] (.op ⟨(some 147), none, (.p (.val (.tmp 16)))⟩
  (.op ⟨(some 2), none, (.p (.val (.tmp 147)))⟩
  .done))))))))))))))))))))))))⟩
theorem i65_is : compFunc Tryd.prog ⟨[], [], [88, 92]⟩ [] 65 = some i65 := by kernel_rfl

/-- math/bits.Len -/
def i66 : IFn := ⟨1, 8, [.tmp 2],
 (.seq (.ops [] (.op ⟨(some 2), none, (.p (.val (.con (.int .i64 0))))⟩
  .done))
 (.seq (.cond (.con (.bool false))
 (.seq (.ops [] (.op ⟨(some 3), none, (.p (.val (.tmp 0)))⟩
  (.op ⟨(some 4), none, (.p (.cvi .u32 (.tmp 3)))⟩
  (.op ⟨(some 5), none, (.call 80 [(.tmp 4)])⟩
  (.op ⟨(some 2), none, (.p (.val (.tmp 5)))⟩
  .done)))))
 .ret)
 .skip)
 (.seq (.ops [] (.op ⟨(some 6), none, (.p (.val (.tmp 0)))⟩
  (.op ⟨(some 7), none, (.call 81 [(.tmp 6)])⟩
  (.op ⟨(some 2), none, (.p (.val (.tmp 7)))⟩
  .done))))
 .ret)))⟩
theorem i66_is : compFunc Tryd.prog ⟨[], [], []⟩ [] 66 = some i66 := by kernel_rfl

/-- cmp.isNaN[string] -/
def i67 : IFn := ⟨1, 6, [.tmp 2],
 (.seq (.ops [] (.op ⟨(some 2), none, (.p (.val (.con (.bool false))))⟩
  .done))
 (.seq (.ops [] (.op ⟨(some 3), none, (.p (.val (.tmp 0)))⟩
  (.op ⟨(some 4), none, (.p (.val (.tmp 0)))⟩
  (.op ⟨(some 5), none, (.p (.bin .neq (.tmp 3) (.tmp 4)))⟩
  (.op ⟨(some 2), none, (.p (.val (.tmp 5)))⟩
  .done)))))
 .ret))⟩
theorem i67_is : compFunc Tryd.prog ⟨[], [], []⟩ [] 67 = some i67 := by kernel_rfl

/-- baton/keys.of -/
def i68 : IFn := ⟨1, 38, [.tmp 2],
 (.seq (.ops [] (.op ⟨(some 2), none, (.p (.val (.con (.int .i64 0))))⟩
  .done))
 (.seq (.ops [] (.op ⟨(some 3), none, (.p (.val (.con (.int .i64 0))))⟩
  .done))
 (.seq (.block 0 (.seq (.block 3 (.seq (.block 2 (.block 1 (.seq (.seq (.seq (.seq (.ops [] (.op ⟨(some 5), none, (.p (.val (.tmp 0)))⟩
  (.op ⟨(some 6), none, (.p (.bin .geq (.tmp 5) (.con (.int .u8 97))))⟩
  (.op ⟨(some 7), none, (.p (.val (.tmp 6)))⟩
  (.op ⟨(some 8), (some (7, true)), (.p (.val (.tmp 0)))⟩
  (.op ⟨(some 9), (some (7, true)), (.p (.bin .leq (.tmp 8) (.con (.int .u8 122))))⟩
  (.op ⟨(some 10), none, (.p (.pick (.tmp 7) (.tmp 9) (.con (.bool false))))⟩
  (.op ⟨(some 4), none, (.p (.val (.tmp 10)))⟩
  .done))))))))
 (.cond (.tmp 4)
 .skip
 (.seq (.ops [] (.op ⟨(some 11), none, (.p (.val (.tmp 0)))⟩
  (.op ⟨(some 12), none, (.p (.bin .geq (.tmp 11) (.con (.int .u8 65))))⟩
  (.op ⟨(some 13), none, (.p (.val (.tmp 12)))⟩
  (.op ⟨(some 14), (some (13, true)), (.p (.val (.tmp 0)))⟩
  (.op ⟨(some 15), (some (13, true)), (.p (.bin .leq (.tmp 14) (.con (.int .u8 90))))⟩
  (.op ⟨(some 16), none, (.p (.pick (.tmp 13) (.tmp 15) (.con (.bool false))))⟩
  (.op ⟨(some 4), none, (.p (.val (.tmp 16)))⟩
  .done))))))))
 (.cond (.tmp 4)
 .skip
 (.ops [] (.op ⟨(some 17), none, (.p (.val (.tmp 0)))⟩
  (.op ⟨(some 18), none, (.p (.bin .geq (.tmp 17) (.con (.int .u8 48))))⟩
  (.op ⟨(some 19), none, (.p (.val (.tmp 18)))⟩
  (.op ⟨(some 20), (some (19, true)), (.p (.val (.tmp 0)))⟩
  (.op ⟨(some 21), (some (19, true)), (.p (.bin .leq (.tmp 20) (.con (.int .u8 57))))⟩
  (.op ⟨(some 22), none, (.p (.pick (.tmp 19) (.tmp 21) (.con (.bool false))))⟩
  (.op ⟨(some 4), none, (.p (.val (.tmp 22)))⟩
  .done))))))))))))
 (.cond (.tmp 4)
 (.exit 1)
 .skip))
 (.seq (.seq (.seq (.ops [] (.op ⟨(some 24), none, (.p (.val (.tmp 0)))⟩
  (.op ⟨(some 25), none, (.p (.bin .eql (.tmp 24) (.con (.int .u8 45))))⟩
  (.op ⟨(some 23), none, (.p (.val (.tmp 25)))⟩
  .done))))
 (.cond (.tmp 23)
 .skip
 (.seq (.ops [] (.op ⟨(some 26), none, (.p (.val (.tmp 0)))⟩
  (.op ⟨(some 27), none, (.p (.bin .eql (.tmp 26) (.con (.int .u8 95))))⟩
  (.op ⟨(some 23), none, (.p (.val (.tmp 27)))⟩
  .done))))
 (.cond (.tmp 23)
 .skip
 (.ops [] (.op ⟨(some 28), none, (.p (.val (.tmp 0)))⟩
  (.op ⟨(some 29), none, (.p (.bin .eql (.tmp 28) (.con (.int .u8 46))))⟩
  (.op ⟨(some 23), none, (.p (.val (.tmp 29)))⟩
  .done))))))))
 (.cond (.tmp 23)
 (.exit 2)
 .skip))
 (.seq (.ops [] (.op ⟨(some 31), none, (.p (.val (.tmp 0)))⟩
  (.op ⟨(some 32), none, (.p (.bin .eql (.tmp 31) (.con (.int .u8 47))))⟩
  (.op ⟨(some 30), none, (.p (.val (.tmp 32)))⟩
  .done))))
 (.cond (.tmp 30)
 (.exit 3)
 .skip))))
 (.exit 0))))
 (.ops [] (.op ⟨(some 33), none, (.p (.val (.tmp 3)))⟩
  (.op ⟨(some 34), none, (.p (.bin .add (.tmp 33) (.con (.int .i64 1))))⟩
  (.op ⟨(some 3), none, (.p (.val (.tmp 34)))⟩
  .done))))))
 (.seq (.ops [] (.op ⟨(some 35), none, (.p (.val (.tmp 3)))⟩
  (.op ⟨(some 36), none, (.p (.bin .add (.tmp 35) (.con (.int .i64 1))))⟩
  (.op ⟨(some 3), none, (.p (.val (.tmp 36)))⟩
  .done))))
 (.exit 0))))
 (.seq (.ops [] (.op ⟨(some 37), none, (.p (.val (.tmp 3)))⟩
  (.op ⟨(some 2), none, (.p (.val (.tmp 37)))⟩
  .done)))
 .ret))))⟩
theorem i68_is : compFunc Tryd.prog ⟨[], [], []⟩ [] 68 = some i68 := by kernel_rfl

/-- baton/labels.letter -/
def i69 : IFn := ⟨2, 30, [.tmp 4],
 (.seq (.ops [] (.op ⟨(some 4), none, (.p (.val (.con (.bool false))))⟩
  .done))
 (.seq (.block 0 (.seq (.seq (.ops [] (.op ⟨(some 6), none, (.p (.val (.tmp 0)))⟩
  (.op ⟨(some 7), none, (.p (.bin .geq (.tmp 6) (.con (.int .u8 97))))⟩
  (.op ⟨(some 8), none, (.p (.val (.tmp 7)))⟩
  (.op ⟨(some 9), (some (8, true)), (.p (.val (.tmp 0)))⟩
  (.op ⟨(some 10), (some (8, true)), (.p (.bin .leq (.tmp 9) (.con (.int .u8 122))))⟩
  (.op ⟨(some 11), none, (.p (.pick (.tmp 8) (.tmp 10) (.con (.bool false))))⟩
  (.op ⟨(some 5), none, (.p (.val (.tmp 11)))⟩
  .done))))))))
 (.cond (.tmp 5)
 .skip
 (.seq (.ops [] (.op ⟨(some 12), none, (.p (.val (.tmp 0)))⟩
  (.op ⟨(some 13), none, (.p (.bin .geq (.tmp 12) (.con (.int .u8 65))))⟩
  (.op ⟨(some 14), none, (.p (.val (.tmp 13)))⟩
  (.op ⟨(some 15), (some (14, true)), (.p (.val (.tmp 0)))⟩
  (.op ⟨(some 16), (some (14, true)), (.p (.bin .leq (.tmp 15) (.con (.int .u8 90))))⟩
  (.op ⟨(some 17), none, (.p (.pick (.tmp 14) (.tmp 16) (.con (.bool false))))⟩
  (.op ⟨(some 5), none, (.p (.val (.tmp 17)))⟩
  .done))))))))
 (.cond (.tmp 5)
 .skip
 (.ops [] (.op ⟨(some 18), none, (.p (.val (.tmp 0)))⟩
  (.op ⟨(some 19), none, (.p (.bin .eql (.tmp 18) (.con (.int .u8 95))))⟩
  (.op ⟨(some 5), none, (.p (.val (.tmp 19)))⟩
  .done))))))))
 (.cond (.tmp 5)
 (.seq (.ops [] (.op ⟨(some 4), none, (.p (.val (.con (.bool true))))⟩
  .done))
 .ret)
 .skip)))
 (.seq (.ops [] (.op ⟨(some 20), none, (.p (.val (.tmp 0)))⟩
  (.op ⟨(some 21), none, (.p (.bin .geq (.tmp 20) (.con (.int .u8 48))))⟩
  (.op ⟨(some 22), none, (.p (.val (.tmp 21)))⟩
  (.op ⟨(some 23), (some (22, true)), (.p (.val (.tmp 0)))⟩
  (.op ⟨(some 24), (some (22, true)), (.p (.bin .leq (.tmp 23) (.con (.int .u8 57))))⟩
  (.op ⟨(some 25), none, (.p (.pick (.tmp 22) (.tmp 24) (.con (.bool false))))⟩
  (.op ⟨(some 26), none, (.p (.val (.tmp 25)))⟩
  (.op ⟨(some 27), (some (26, true)), (.p (.val (.tmp 1)))⟩
  (.op ⟨(some 28), (some (26, true)), (.p (.un .not (.tmp 27)))⟩
  (.op ⟨(some 29), none, (.p (.pick (.tmp 26) (.tmp 28) (.con (.bool false))))⟩
  (.op ⟨(some 4), none, (.p (.val (.tmp 29)))⟩
  .done))))))))))))
 .ret)))⟩
theorem i69_is : compFunc Tryd.prog ⟨[], [], []⟩ [] 69 = some i69 := by kernel_rfl

/-- unicode/utf8.ValidString -/
def i70 : IFn := ⟨1, 169, [.tmp 2],
 (.seq (.ops [] (.op ⟨(some 2), none, (.p (.val (.con (.bool false))))⟩
  .done))
 (.seq (.block 0 (.loop (.seq (.seq (.ops [] (.op ⟨(some 7), none, (.p (.val (.tmp 0)))⟩
  (.op ⟨(some 8), none, (.p (.lens (.tmp 7)))⟩
  (.op ⟨(some 9), none, (.p (.bin .gtr (.tmp 8) (.con (.int .i64 0))))⟩
  .done))))
 (.cond (.tmp 9)
 .skip
 (.exit 0)))
 (.block 1 (.seq (.ops [] (.op ⟨(some 10), none, (.p (.val (.tmp 0)))⟩
  (.op ⟨(some 11), none, (.p (.idxs (.tmp 10) (.con (.int .i64 0))))⟩
  (.op ⟨(some 3), none, (.p (.val (.tmp 11)))⟩
  .done))))
 (.seq (.seq (.ops [] (.op ⟨(some 12), none, (.p (.val (.tmp 3)))⟩
  (.op ⟨(some 13), none, (.p (.bin .lss (.tmp 12) (.con (.int .u8 128))))⟩
  .done)))
 (.cond (.tmp 13)
 (.seq (.ops [] (.op ⟨(some 14), none, (.p (.val (.tmp 0)))⟩
  (.op ⟨(some 15), none, (.p (.sls (.tmp 14) (some (.con (.int .i64 1))) none))⟩
  (.op ⟨(some 0), none, (.p (.val (.tmp 15)))⟩
  .done))))
 (.seq (.seq (.ops [] (.op ⟨(some 16), none, (.p (.val (.tmp 0)))⟩
  (.op ⟨(some 17), none, (.p (.lens (.tmp 16)))⟩
  (.op ⟨(some 18), none, (.p (.bin .gtr (.tmp 17) (.con (.int .i64 8))))⟩
  (.op ⟨(some 19), none, (.p (.val (.tmp 18)))⟩
  (.op ⟨(some 20), (some (19, true)), (.p (.val (.tmp 0)))⟩
  (.op ⟨(some 21), (some (19, true)), (.call 82 [(.tmp 20)])⟩
  (.op ⟨(some 22), (some (19, true)), (.p (.bin .and (.tmp 21) (.con (.int .u64 9259542123273814144))))⟩
  (.op ⟨(some 23), (some (19, true)), (.p (.bin .eql (.tmp 22) (.con (.int .u64 0))))⟩
  (.op ⟨(some 24), none, (.p (.pick (.tmp 19) (.tmp 23) (.con (.bool false))))⟩
  .done))))))))))
 (.cond (.tmp 24)
 (.seq (.ops [] (.op ⟨(some 25), none, (.p (.val (.tmp 0)))⟩
  (.op ⟨(some 26), none, (.p (.sls (.tmp 25) (some (.con (.int .i64 8))) none))⟩
  (.op ⟨(some 0), none, (.p (.val (.tmp 26)))⟩
  .done))))
 (.seq (.ops [] (.op ⟨(some 27), none, (.p (.val (.tmp 0)))⟩
  (.op ⟨(some 28), none, (.p (.lens (.tmp 27)))⟩
  (.op ⟨(some 29), none, (.p (.bin .gtr (.tmp 28) (.con (.int .i64 16))))⟩
  (.op ⟨(some 30), none, (.p (.val (.tmp 29)))⟩
  (.op ⟨(some 31), (some (30, true)), (.p (.val (.tmp 0)))⟩
  (.op ⟨(some 33), (some (30, true)), (.p (.val (.tmp 0)))⟩
  (.op ⟨(some 34), (some (30, true)), (.p (.sls (.tmp 33) (some (.con (.int .i64 8))) none))⟩
  (.op ⟨(some 32), (some (30, true)), (.call 82 [(.tmp 31)])⟩
  (.op ⟨(some 35), (some (30, true)), (.call 82 [(.tmp 34)])⟩
  (.op ⟨(some 36), (some (30, true)), (.p (.bin .or (.tmp 32) (.tmp 35)))⟩
  (.op ⟨(some 37), (some (30, true)), (.p (.bin .and (.tmp 36) (.con (.int .u64 9259542123273814144))))⟩
  (.op ⟨(some 38), (some (30, true)), (.p (.bin .eql (.tmp 37) (.con (.int .u64 0))))⟩
  (.op ⟨(some 39), none, (.p (.pick (.tmp 30) (.tmp 38) (.con (.bool false))))⟩
  .done))))))))))))))
 (.cond (.tmp 39)
 (.seq (.ops [] (.op ⟨(some 40), none, (.p (.val (.tmp 0)))⟩
  (.op ⟨(some 41), none, (.p (.sls (.tmp 40) (some (.con (.int .i64 16))) none))⟩
  (.op ⟨(some 0), none, (.p (.val (.tmp 41)))⟩
  .done))))
 (.block 2 (.loop (.seq (.seq (.ops [] (.op ⟨(some 42), none, (.p (.val (.tmp 0)))⟩
  (.op ⟨(some 43), none, (.p (.lens (.tmp 42)))⟩
  (.op ⟨(some 44), none, (.p (.bin .gtr (.tmp 43) (.con (.int .i64 32))))⟩
  (.op ⟨(some 45), none, (.p (.val (.tmp 44)))⟩
  (.op ⟨(some 46), (some (45, true)), (.p (.val (.tmp 0)))⟩
  (.op ⟨(some 48), (some (45, true)), (.p (.val (.tmp 0)))⟩
  (.op ⟨(some 49), (some (45, true)), (.p (.sls (.tmp 48) (some (.con (.int .i64 8))) none))⟩
  (.op ⟨(some 52), (some (45, true)), (.p (.val (.tmp 0)))⟩
  (.op ⟨(some 53), (some (45, true)), (.p (.sls (.tmp 52) (some (.con (.int .i64 16))) none))⟩
  (.op ⟨(some 55), (some (45, true)), (.p (.val (.tmp 0)))⟩
  (.op ⟨(some 56), (some (45, true)), (.p (.sls (.tmp 55) (some (.con (.int .i64 24))) none))⟩
  (.op ⟨(some 47), (some (45, true)), (.call 82 [(.tmp 46)])⟩
  (.op ⟨(some 50), (some (45, true)), (.call 82 [(.tmp 49)])⟩
  (.op ⟨(some 51), (some (45, true)), (.p (.bin .or (.tmp 47) (.tmp 50)))⟩
  (.op ⟨(some 54), (some (45, true)), (.call 82 [(.tmp 53)])⟩
  (.op ⟨(some 57), (some (45, true)), (.call 82 [(.tmp 56)])⟩
  (.op ⟨(some 58), (some (45, true)), (.p (.bin .or (.tmp 54) (.tmp 57)))⟩
  (.op ⟨(some 59), (some (45, true)), (.p (.bin .or (.tmp 51) (.tmp 58)))⟩
  (.op ⟨(some 60), (some (45, true)), (.p (.bin .and (.tmp 59) (.con (.int .u64 9259542123273814144))))⟩
  (.op ⟨(some 61), (some (45, true)), (.p (.bin .eql (.tmp 60) (.con (.int .u64 0))))⟩
  (.op ⟨(some 62), none, (.p (.pick (.tmp 45) (.tmp 61) (.con (.bool false))))⟩
  .done))))))))))))))))))))))
 (.cond (.tmp 62)
 .skip
 (.exit 2)))
 (.block 3 (.ops [] (.op ⟨(some 63), none, (.p (.val (.tmp 0)))⟩
  (.op ⟨(some 64), none, (.p (.sls (.tmp 63) (some (.con (.int .i64 32))) none))⟩
  (.op ⟨(some 0), none, (.p (.val (.tmp 64)))⟩
  .done)))))))))
 .skip)))
 .skip))
 (.exit 1)))
 .skip))
 (.seq (.ops [] (.op ⟨(some 65), none, (.p (.val (.tmp 3)))⟩
  (.op ⟨(some 66), none, (.p (.iaddra 1 256 (.glob 0) (.tmp 65)))⟩
  (.op ⟨(some 67), none, (.load false 1 (.tmp 66))⟩
  (.op ⟨(some 4), none, (.p (.val (.tmp 67)))⟩
  .done)))))
 (.seq (.ops [] (.op ⟨(some 68), none, (.p (.val (.tmp 4)))⟩
  (.op ⟨(some 69), none, (.p (.bin .and (.tmp 68) (.con (.int .u8 7))))⟩
  (.op ⟨(some 70), none, (.p (.cvi .i64 (.tmp 69)))⟩
  (.op ⟨(some 5), none, (.p (.val (.tmp 70)))⟩
  .done)))))
 (.seq (.ops [] (.op ⟨(some 71), none, (.p (.val (.tmp 4)))⟩
  (.op ⟨(some 72), none, (.p (.bin .shr (.tmp 71) (.con (.int .u64 4))))⟩
  (.op ⟨(some 73), none, (.p (.iaddra 2 16 (.glob 1) (.tmp 72)))⟩
  (.op ⟨(some 74), none, (.load true 2 (.tmp 73))⟩
  (.op ⟨(some 6), none, (.alloc [(.int .u8 0), (.int .u8 0)])⟩
  (.op ⟨(some 6), none, (.storef 6 2 (.tmp 74))⟩
  .done)))))))
 (.seq (.ops [] (.op ⟨(some 75), none, (.p (.val (.tmp 5)))⟩
  .done))
 (.block 4 (.seq (.ops [] (.op ⟨(some 77), none, (.p (.bin .eql (.tmp 75) (.con (.int .i64 2))))⟩
  (.op ⟨(some 76), none, (.p (.val (.tmp 77)))⟩
  .done)))
 (.cond (.tmp 76)
 (.seq (.seq (.ops [] (.op ⟨(some 78), none, (.p (.val (.tmp 0)))⟩
  (.op ⟨(some 79), none, (.p (.lens (.tmp 78)))⟩
  (.op ⟨(some 80), none, (.p (.bin .lss (.tmp 79) (.con (.int .i64 2))))⟩
  (.op ⟨(some 81), none, (.p (.val (.tmp 80)))⟩
  (.op ⟨(some 82), (some (81, false)), (.p (.val (.tmp 0)))⟩
  (.op ⟨(some 83), (some (81, false)), (.p (.idxs (.tmp 82) (.con (.int .i64 1))))⟩
  (.op ⟨(some 84), (some (81, false)), (.p (.faddr 0 (.tmp 6)))⟩
  (.op ⟨(some 85), (some (81, false)), (.p (.loadi false 1 (.tmp 84)))⟩
  (.op ⟨(some 86), (some (81, false)), (.p (.bin .lss (.tmp 83) (.tmp 85)))⟩
  (.op ⟨(some 87), none, (.p (.pick (.tmp 81) (.con (.bool true)) (.tmp 86)))⟩
  (.op ⟨(some 88), none, (.p (.val (.tmp 87)))⟩
  (.op ⟨(some 89), (some (88, false)), (.p (.faddr 1 (.tmp 6)))⟩
  (.op ⟨(some 90), (some (88, false)), (.p (.loadi false 1 (.tmp 89)))⟩
  (.op ⟨(some 91), (some (88, false)), (.p (.val (.tmp 0)))⟩
  (.op ⟨(some 92), (some (88, false)), (.p (.idxs (.tmp 91) (.con (.int .i64 1))))⟩
  (.op ⟨(some 93), (some (88, false)), (.p (.bin .lss (.tmp 90) (.tmp 92)))⟩
  (.op ⟨(some 94), none, (.p (.pick (.tmp 88) (.con (.bool true)) (.tmp 93)))⟩
  .done))))))))))))))))))
 (.cond (.tmp 94)
 (.seq (.ops [] (.op ⟨(some 2), none, (.p (.val (.con (.bool false))))⟩
  .done))
 .ret)
 .skip))
 (.ops [] (.op ⟨(some 95), none, (.p (.val (.tmp 0)))⟩
  (.op ⟨(some 96), none, (.p (.sls (.tmp 95) (some (.con (.int .i64 2))) none))⟩
  (.op ⟨(some 0), none, (.p (.val (.tmp 96)))⟩
  .done)))))
 (.seq (.ops [] (.op ⟨(some 98), none, (.p (.bin .eql (.tmp 75) (.con (.int .i64 3))))⟩
  (.op ⟨(some 97), none, (.p (.val (.tmp 98)))⟩
  .done)))
 (.cond (.tmp 97)
 (.seq (.seq (.ops [] (.op ⟨(some 99), none, (.p (.val (.tmp 0)))⟩
  (.op ⟨(some 100), none, (.p (.lens (.tmp 99)))⟩
  (.op ⟨(some 101), none, (.p (.bin .lss (.tmp 100) (.con (.int .i64 3))))⟩
  (.op ⟨(some 102), none, (.p (.val (.tmp 101)))⟩
  (.op ⟨(some 103), (some (102, false)), (.p (.val (.tmp 0)))⟩
  (.op ⟨(some 104), (some (102, false)), (.p (.idxs (.tmp 103) (.con (.int .i64 1))))⟩
  (.op ⟨(some 105), (some (102, false)), (.p (.faddr 0 (.tmp 6)))⟩
  (.op ⟨(some 106), (some (102, false)), (.p (.loadi false 1 (.tmp 105)))⟩
  (.op ⟨(some 107), (some (102, false)), (.p (.bin .lss (.tmp 104) (.tmp 106)))⟩
  (.op ⟨(some 108), none, (.p (.pick (.tmp 102) (.con (.bool true)) (.tmp 107)))⟩
  (.op ⟨(some 109), none, (.p (.val (.tmp 108)))⟩
  (.op ⟨(some 110), (some (109, false)), (.p (.faddr 1 (.tmp 6)))⟩
  (.op ⟨(some 111), (some (109, false)), (.p (.loadi false 1 (.tmp 110)))⟩
  (.op ⟨(some 112), (some (109, false)), (.p (.val (.tmp 0)))⟩
  (.op ⟨(some 113), (some (109, false)), (.p (.idxs (.tmp 112) (.con (.int .i64 1))))⟩
  (.op ⟨(some 114), (some (109, false)), (.p (.bin .lss (.tmp 111) (.tmp 113)))⟩
  (.op ⟨(some 115), none, (.p (.pick (.tmp 109) (.con (.bool true)) (.tmp 114)))⟩
  (.op ⟨(some 116), none, (.p (.val (.tmp 115)))⟩
  (.op ⟨(some 117), (some (116, false)), (.p (.val (.tmp 0)))⟩
  (.op ⟨(some 118), (some (116, false)), (.p (.idxs (.tmp 117) (.con (.int .i64 2))))⟩
  (.op ⟨(some 119), (some (116, false)), (.p (.bin .lss (.tmp 118) (.con (.int .u8 128))))⟩
  (.op ⟨(some 120), none, (.p (.pick (.tmp 116) (.con (.bool true)) (.tmp 119)))⟩
  (.op ⟨(some 121), none, (.p (.val (.tmp 120)))⟩
  (.op ⟨(some 122), (some (121, false)), (.p (.val (.tmp 0)))⟩
  (.op ⟨(some 123), (some (121, false)), (.p (.idxs (.tmp 122) (.con (.int .i64 2))))⟩
  (.op ⟨(some 124), (some (121, false)), (.p (.bin .lss (.con (.int .u8 191)) (.tmp 123)))⟩
  (.op ⟨(some 125), none, (.p (.pick (.tmp 121) (.con (.bool true)) (.tmp 124)))⟩
  .done))))))))))))))))))))))))))))
 (.cond (.tmp 125)
 (.seq (.ops [] (.op ⟨(some 2), none, (.p (.val (.con (.bool false))))⟩
  .done))
 .ret)
 .skip))
 (.ops [] (.op ⟨(some 126), none, (.p (.val (.tmp 0)))⟩
  (.op ⟨(some 127), none, (.p (.sls (.tmp 126) (some (.con (.int .i64 3))) none))⟩
  (.op ⟨(some 0), none, (.p (.val (.tmp 127)))⟩
  .done)))))
 (.seq (.ops [] (.op ⟨(some 129), none, (.p (.bin .eql (.tmp 75) (.con (.int .i64 4))))⟩
  (.op ⟨(some 128), none, (.p (.val (.tmp 129)))⟩
  .done)))
 (.cond (.tmp 128)
 (.seq (.seq (.ops [] (.op ⟨(some 130), none, (.p (.val (.tmp 0)))⟩
  (.op ⟨(some 131), none, (.p (.lens (.tmp 130)))⟩
  (.op ⟨(some 132), none, (.p (.bin .lss (.tmp 131) (.con (.int .i64 4))))⟩
  (.op ⟨(some 133), none, (.p (.val (.tmp 132)))⟩
  (.op ⟨(some 134), (some (133, false)), (.p (.val (.tmp 0)))⟩
  (.op ⟨(some 135), (some (133, false)), (.p (.idxs (.tmp 134) (.con (.int .i64 1))))⟩
  (.op ⟨(some 136), (some (133, false)), (.p (.faddr 0 (.tmp 6)))⟩
  (.op ⟨(some 137), (some (133, false)), (.p (.loadi false 1 (.tmp 136)))⟩
  (.op ⟨(some 138), (some (133, false)), (.p (.bin .lss (.tmp 135) (.tmp 137)))⟩
  (.op ⟨(some 139), none, (.p (.pick (.tmp 133) (.con (.bool true)) (.tmp 138)))⟩
  (.op ⟨(some 140), none, (.p (.val (.tmp 139)))⟩
  (.op ⟨(some 141), (some (140, false)), (.p (.faddr 1 (.tmp 6)))⟩
  (.op ⟨(some 142), (some (140, false)), (.p (.loadi false 1 (.tmp 141)))⟩
  (.op ⟨(some 143), (some (140, false)), (.p (.val (.tmp 0)))⟩
  (.op ⟨(some 144), (some (140, false)), (.p (.idxs (.tmp 143) (.con (.int .i64 1))))⟩
  (.op ⟨(some 145), (some (140, false)), (.p (.bin .lss (.tmp 142) (.tmp 144)))⟩
  (.op ⟨(some 146), none, (.p (.pick (.tmp 140) (.con (.bool true)) (.tmp 145)))⟩
  (.op ⟨(some 147), none, (.p (.val (.tmp 146)))⟩
  (.op ⟨(some 148), (some (147, false)), (.p (.val (.tmp 0)))⟩
  (.op ⟨(some 149), (some (147, false)), (.p (.idxs (.tmp 148) (.con (.int .i64 2))))⟩
  (.op ⟨(some 150), (some (147, false)), (.p (.bin .lss (.tmp 149) (.con (.int .u8 128))))⟩
  (.op ⟨(some 151), none, (.p (.pick (.tmp 147) (.con (.bool true)) (.tmp 150)))⟩
  (.op ⟨(some 152), none, (.p (.val (.tmp 151)))⟩
  (.op ⟨(some 153), (some (152, false)), (.p (.val (.tmp 0)))⟩
  (.op ⟨(some 154), (some (152, false)), (.p (.idxs (.tmp 153) (.con (.int .i64 2))))⟩
  (.op ⟨(some 155), (some (152, false)), (.p (.bin .lss (.con (.int .u8 191)) (.tmp 154)))⟩
  (.op ⟨(some 156), none, (.p (.pick (.tmp 152) (.con (.bool true)) (.tmp 155)))⟩
  (.op ⟨(some 157), none, (.p (.val (.tmp 156)))⟩
  (.op ⟨(some 158), (some (157, false)), (.p (.val (.tmp 0)))⟩
  (.op ⟨(some 159), (some (157, false)), (.p (.idxs (.tmp 158) (.con (.int .i64 3))))⟩
  (.op ⟨(some 160), (some (157, false)), (.p (.bin .lss (.tmp 159) (.con (.int .u8 128))))⟩
  (.op ⟨(some 161), none, (.p (.pick (.tmp 157) (.con (.bool true)) (.tmp 160)))⟩
  (.op ⟨(some 162), none, (.p (.val (.tmp 161)))⟩
  (.op ⟨(some 163), (some (162, false)), (.p (.val (.tmp 0)))⟩
  (.op ⟨(some 164), (some (162, false)), (.p (.idxs (.tmp 163) (.con (.int .i64 3))))⟩
  (.op ⟨(some 165), (some (162, false)), (.p (.bin .lss (.con (.int .u8 191)) (.tmp 164)))⟩
  (.op ⟨(some 166), none, (.p (.pick (.tmp 162) (.con (.bool true)) (.tmp 165)))⟩
  .done))))))))))))))))))))))))))))))))))))))
 (.cond (.tmp 166)
 (.seq (.ops [] (.op ⟨(some 2), none, (.p (.val (.con (.bool false))))⟩
  .done))
 .ret)
 .skip))
 (.ops [] (.op ⟨(some 167), none, (.p (.val (.tmp 0)))⟩
  (.op ⟨(some 168), none, (.p (.sls (.tmp 167) (some (.con (.int .i64 4))) none))⟩
  (.op ⟨(some 0), none, (.p (.val (.tmp 168)))⟩
  .done)))))
 (.seq (.ops [] (.op ⟨(some 2), none, (.p (.val (.con (.bool false))))⟩
  .done))
 .ret))))))))))))))))))
 (.seq (.ops [] (.op ⟨(some 2), none, (.p (.val (.con (.bool true))))⟩
  .done))
 .ret)))⟩
theorem i70_is : compFunc Tryd.prog ⟨[6], [], [6, 84, 89, 105, 110, 136, 141]⟩ [] 70 = some i70 := by kernel_rfl

/-- baton/series.place -/
def i71 : IFn := ⟨2, 11, [.tmp 4, .tmp 5],
 (.seq (.ops [] (.op ⟨(some 4), none, (.p (.val (.con (.int .i64 0))))⟩
  (.op ⟨(some 5), none, (.p (.val (.con (.bool false))))⟩
  .done)))
 (.seq (.ops [] (.op ⟨(some 6), none, (.p (.val (.tmp 0)))⟩
  (.op ⟨(some 7), none, (.p (.val (.tmp 1)))⟩
  (.op ⟨(some 8), none, (.call 83 [(.tmp 6), (.tmp 7), (.con (.func (.func 84) [] []))])⟩
  (.op ⟨(some 9), none, (.p (.ext 0 (.tmp 8)))⟩
  (.op ⟨(some 10), none, (.p (.ext 1 (.tmp 8)))⟩
  (.op ⟨(some 4), none, (.p (.val (.tmp 9)))⟩
  (.op ⟨(some 5), none, (.p (.val (.tmp 10)))⟩
  .done))))))))
 .ret))⟩
theorem i71_is : compFunc Tryd.prog ⟨[], [], []⟩ [] 71 = some i71 := by kernel_rfl

/-- slices.insertionSortCmpFunc[baton/fence.place] -/
def i72 : IFn := ⟨4, 53, [],
 (.seq (.ops [] (.op ⟨(some 10), none, (.p (.val (.tmp 1)))⟩
  (.op ⟨(some 11), none, (.p (.bin .add (.tmp 10) (.con (.int .i64 1))))⟩
  (.op ⟨(some 8), none, (.p (.val (.tmp 11)))⟩
  .done))))
 (.block 0 (.loop (.seq (.seq (.ops [] (.op ⟨(some 12), none, (.p (.val (.tmp 8)))⟩
  (.op ⟨(some 13), none, (.p (.val (.tmp 2)))⟩
  (.op ⟨(some 14), none, (.p (.bin .lss (.tmp 12) (.tmp 13)))⟩
  .done))))
 (.cond (.tmp 14)
 .skip
 (.exit 0)))
 (.seq (.block 1 (.seq (.ops [] (.op ⟨(some 17), none, (.p (.val (.tmp 8)))⟩
  (.op ⟨(some 9), none, (.p (.val (.tmp 17)))⟩
  .done)))
 (.block 2 (.loop (.seq (.seq (.ops [] (.op ⟨(some 18), none, (.p (.val (.tmp 9)))⟩
  (.op ⟨(some 19), none, (.p (.val (.tmp 1)))⟩
  (.op ⟨(some 20), none, (.p (.bin .gtr (.tmp 18) (.tmp 19)))⟩
  (.op ⟨(some 21), none, (.p (.val (.tmp 20)))⟩
  (.op ⟨(some 22), (some (21, true)), (.p (.val (.tmp 3)))⟩
  (.op ⟨(some 23), (some (21, true)), (.p (.val (.tmp 0)))⟩
  (.op ⟨(some 24), (some (21, true)), (.p (.val (.tmp 9)))⟩
  (.op ⟨(some 25), (some (21, true)), (.p (.iaddr 2 (.tmp 23) (.tmp 24)))⟩
  (.op ⟨(some 26), (some (21, true)), (.p (.loadi true 2 (.tmp 25)))⟩
  (.op ⟨(some 27), (some (21, true)), (.p (.val (.tmp 0)))⟩
  (.op ⟨(some 28), (some (21, true)), (.p (.val (.tmp 9)))⟩
  (.op ⟨(some 29), (some (21, true)), (.p (.bin .sub (.tmp 28) (.con (.int .i64 1))))⟩
  (.op ⟨(some 30), (some (21, true)), (.p (.iaddr 2 (.tmp 27) (.tmp 29)))⟩
  (.op ⟨(some 31), (some (21, true)), (.p (.loadi true 2 (.tmp 30)))⟩
  (.op ⟨(some 32), (some (21, true)), (.callv (.tmp 22) [(.tmp 26), (.tmp 31)])⟩
  (.op ⟨(some 33), (some (21, true)), (.p (.bin .lss (.tmp 32) (.con (.int .i64 0))))⟩
  (.op ⟨(some 34), none, (.p (.pick (.tmp 21) (.tmp 33) (.con (.bool false))))⟩
  .done))))))))))))))))))
 (.cond (.tmp 34)
 .skip
 (.exit 2)))
 (.seq (.block 3 (.ops [] (.op ⟨(some 37), none, (.p (.val (.tmp 0)))⟩
  (.op ⟨(some 38), none, (.p (.val (.tmp 9)))⟩
  (.op ⟨(some 39), none, (.p (.val (.tmp 0)))⟩
  (.op ⟨(some 40), none, (.p (.val (.tmp 9)))⟩
  (.op ⟨(some 41), none, (.p (.bin .sub (.tmp 40) (.con (.int .i64 1))))⟩
  (.op ⟨(some 42), none, (.p (.val (.tmp 0)))⟩
  (.op ⟨(some 43), none, (.p (.val (.tmp 9)))⟩
  (.op ⟨(some 44), none, (.p (.bin .sub (.tmp 43) (.con (.int .i64 1))))⟩
  (.op ⟨(some 45), none, (.p (.iaddr 2 (.tmp 42) (.tmp 44)))⟩
  (.op ⟨(some 46), none, (.p (.loadi true 2 (.tmp 45)))⟩
  (.op ⟨(some 47), none, (.p (.val (.tmp 0)))⟩
  (.op ⟨(some 48), none, (.p (.val (.tmp 9)))⟩
  (.op ⟨(some 49), none, (.p (.iaddr 2 (.tmp 47) (.tmp 48)))⟩
  (.op ⟨(some 50), none, (.p (.loadi true 2 (.tmp 49)))⟩
  (.op ⟨(some 51), none, (.p (.iaddr 2 (.tmp 37) (.tmp 38)))⟩
  (.op ⟨none, none, (.store 2 (.tmp 51) (.tmp 46))⟩
  (.op ⟨(some 52), none, (.p (.iaddr 2 (.tmp 39) (.tmp 41)))⟩
  (.op ⟨none, none, (.store 2 (.tmp 52) (.tmp 50))⟩
  .done))))))))))))))))))))
 (.ops [] (.op ⟨(some 35), none, (.p (.val (.tmp 9)))⟩
  (.op ⟨(some 36), none, (.p (.bin .sub (.tmp 35) (.con (.int .i64 1))))⟩
  (.op ⟨(some 9), none, (.p (.val (.tmp 36)))⟩
  .done))))))))))
 (.ops [] (.op ⟨(some 15), none, (.p (.val (.tmp 8)))⟩
  (.op ⟨(some 16), none, (.p (.bin .add (.tmp 15) (.con (.int .i64 1))))⟩
  (.op ⟨(some 8), none, (.p (.val (.tmp 16)))⟩
  .done)))))))))⟩
theorem i72_is : compFunc Tryd.prog ⟨[], [], [25, 30, 45, 49, 51, 52]⟩ [] 72 = some i72 := by kernel_rfl

/-- slices.heapSortCmpFunc[baton/fence.place] -/
def i73 : IFn := ⟨4, 60, [],
 (.seq (.ops [] (.op ⟨(some 13), none, (.p (.val (.tmp 1)))⟩
  (.op ⟨(some 8), none, (.p (.val (.tmp 13)))⟩
  .done)))
 (.seq (.ops [] (.op ⟨(some 9), none, (.p (.val (.con (.int .i64 0))))⟩
  .done))
 (.seq (.ops [] (.op ⟨(some 14), none, (.p (.val (.tmp 2)))⟩
  (.op ⟨(some 15), none, (.p (.val (.tmp 1)))⟩
  (.op ⟨(some 16), none, (.p (.bin .sub (.tmp 14) (.tmp 15)))⟩
  (.op ⟨(some 10), none, (.p (.val (.tmp 16)))⟩
  .done)))))
 (.seq (.seq (.ops [] (.op ⟨(some 17), none, (.p (.val (.tmp 10)))⟩
  (.op ⟨(some 18), none, (.p (.bin .sub (.tmp 17) (.con (.int .i64 1))))⟩
  (.op ⟨(some 19), none, (.p (.bin .quo (.tmp 18) (.con (.int .i64 2))))⟩
  (.op ⟨(some 11), none, (.p (.val (.tmp 19)))⟩
  .done)))))
 (.block 0 (.loop (.seq (.seq (.ops [] (.op ⟨(some 20), none, (.p (.val (.tmp 11)))⟩
  (.op ⟨(some 21), none, (.p (.bin .geq (.tmp 20) (.con (.int .i64 0))))⟩
  .done)))
 (.cond (.tmp 21)
 .skip
 (.exit 0)))
 (.seq (.block 1 (.ops [] (.op ⟨(some 24), none, (.p (.val (.tmp 0)))⟩
  (.op ⟨(some 25), none, (.p (.val (.tmp 11)))⟩
  (.op ⟨(some 26), none, (.p (.val (.tmp 10)))⟩
  (.op ⟨(some 27), none, (.p (.val (.tmp 8)))⟩
  (.op ⟨(some 28), none, (.p (.val (.tmp 3)))⟩
  (.op ⟨(some 29), none, (.call 86 [(.tmp 24), (.tmp 25), (.tmp 26), (.tmp 27), (.tmp 28)])⟩
  .done))))))))
 (.ops [] (.op ⟨(some 22), none, (.p (.val (.tmp 11)))⟩
  (.op ⟨(some 23), none, (.p (.bin .sub (.tmp 22) (.con (.int .i64 1))))⟩
  (.op ⟨(some 11), none, (.p (.val (.tmp 23)))⟩
  .done)))))))))
 (.seq (.ops [] (.op ⟨(some 30), none, (.p (.val (.tmp 10)))⟩
  (.op ⟨(some 31), none, (.p (.bin .sub (.tmp 30) (.con (.int .i64 1))))⟩
  (.op ⟨(some 12), none, (.p (.val (.tmp 31)))⟩
  .done))))
 (.block 2 (.loop (.seq (.seq (.ops [] (.op ⟨(some 32), none, (.p (.val (.tmp 12)))⟩
  (.op ⟨(some 33), none, (.p (.bin .geq (.tmp 32) (.con (.int .i64 0))))⟩
  .done)))
 (.cond (.tmp 33)
 .skip
 (.exit 2)))
 (.seq (.block 3 (.seq (.ops [] (.op ⟨(some 36), none, (.p (.val (.tmp 0)))⟩
  (.op ⟨(some 37), none, (.p (.val (.tmp 8)))⟩
  (.op ⟨(some 38), none, (.p (.val (.tmp 0)))⟩
  (.op ⟨(some 39), none, (.p (.val (.tmp 8)))⟩
  (.op ⟨(some 40), none, (.p (.val (.tmp 12)))⟩
  (.op ⟨(some 41), none, (.p (.bin .add (.tmp 39) (.tmp 40)))⟩
  (.op ⟨(some 42), none, (.p (.val (.tmp 0)))⟩
  (.op ⟨(some 43), none, (.p (.val (.tmp 8)))⟩
  (.op ⟨(some 44), none, (.p (.val (.tmp 12)))⟩
  (.op ⟨(some 45), none, (.p (.bin .add (.tmp 43) (.tmp 44)))⟩
  (.op ⟨(some 46), none, (.p (.iaddr 2 (.tmp 42) (.tmp 45)))⟩
  (.op ⟨(some 47), none, (.p (.loadi true 2 (.tmp 46)))⟩
  (.op ⟨(some 48), none, (.p (.val (.tmp 0)))⟩
  (.op ⟨(some 49), none, (.p (.val (.tmp 8)))⟩
  (.op ⟨(some 50), none, (.p (.iaddr 2 (.tmp 48) (.tmp 49)))⟩
  (.op ⟨(some 51), none, (.p (.loadi true 2 (.tmp 50)))⟩
  (.op ⟨(some 52), none, (.p (.iaddr 2 (.tmp 36) (.tmp 37)))⟩
  (.op ⟨none, none, (.store 2 (.tmp 52) (.tmp 47))⟩
  (.op ⟨(some 53), none, (.p (.iaddr 2 (.tmp 38) (.tmp 41)))⟩
  (.op ⟨none, none, (.store 2 (.tmp 53) (.tmp 51))⟩
  .done)))))))))))))))))))))
 (.ops [] (.op ⟨(some 54), none, (.p (.val (.tmp 0)))⟩
  (.op ⟨(some 55), none, (.p (.val (.tmp 9)))⟩
  (.op ⟨(some 56), none, (.p (.val (.tmp 12)))⟩
  (.op ⟨(some 57), none, (.p (.val (.tmp 8)))⟩
  (.op ⟨(some 58), none, (.p (.val (.tmp 3)))⟩
  (.op ⟨(some 59), none, (.call 86 [(.tmp 54), (.tmp 55), (.tmp 56), (.tmp 57), (.tmp 58)])⟩
  .done)))))))))
 (.ops [] (.op ⟨(some 34), none, (.p (.val (.tmp 12)))⟩
  (.op ⟨(some 35), none, (.p (.bin .sub (.tmp 34) (.con (.int .i64 1))))⟩
  (.op ⟨(some 12), none, (.p (.val (.tmp 35)))⟩
  .done)))))))))))))⟩
theorem i73_is : compFunc Tryd.prog ⟨[], [], [46, 50, 52, 53]⟩ [] 73 = some i73 := by kernel_rfl

/-- slices.breakPatternsCmpFunc[baton/fence.place] -/
def i74 : IFn := ⟨4, 67, [],
 (.seq (.ops [] (.op ⟨(some 13), none, (.p (.val (.tmp 2)))⟩
  (.op ⟨(some 14), none, (.p (.val (.tmp 1)))⟩
  (.op ⟨(some 15), none, (.p (.bin .sub (.tmp 13) (.tmp 14)))⟩
  (.op ⟨(some 8), none, (.p (.val (.tmp 15)))⟩
  .done)))))
 (.seq (.ops [] (.op ⟨(some 16), none, (.p (.val (.tmp 8)))⟩
  (.op ⟨(some 17), none, (.p (.bin .geq (.tmp 16) (.con (.int .i64 8))))⟩
  .done)))
 (.cond (.tmp 17)
 (.seq (.ops [] (.op ⟨(some 18), none, (.p (.val (.tmp 8)))⟩
  (.op ⟨(some 19), none, (.p (.cvi .u64 (.tmp 18)))⟩
  (.op ⟨(some 9), none, (.alloc [(.int .u64 0)])⟩
  (.op ⟨none, none, (.store 1 (.tmp 9) (.tmp 19))⟩
  .done)))))
 (.seq (.ops [] (.op ⟨(some 20), none, (.p (.val (.tmp 8)))⟩
  (.op ⟨(some 21), none, (.call 87 [(.tmp 20)])⟩
  (.op ⟨(some 10), none, (.p (.val (.tmp 21)))⟩
  .done))))
 (.seq (.ops [] (.op ⟨(some 22), none, (.p (.val (.tmp 1)))⟩
  (.op ⟨(some 23), none, (.p (.val (.tmp 8)))⟩
  (.op ⟨(some 24), none, (.p (.bin .quo (.tmp 23) (.con (.int .i64 4))))⟩
  (.op ⟨(some 25), none, (.p (.bin .mul (.tmp 24) (.con (.int .i64 2))))⟩
  (.op ⟨(some 26), none, (.p (.bin .add (.tmp 22) (.tmp 25)))⟩
  (.op ⟨(some 27), none, (.p (.bin .sub (.tmp 26) (.con (.int .i64 1))))⟩
  (.op ⟨(some 11), none, (.p (.val (.tmp 27)))⟩
  .done))))))))
 (.block 0 (.loop (.seq (.seq (.ops [] (.op ⟨(some 28), none, (.p (.val (.tmp 11)))⟩
  (.op ⟨(some 29), none, (.p (.val (.tmp 1)))⟩
  (.op ⟨(some 30), none, (.p (.val (.tmp 8)))⟩
  (.op ⟨(some 31), none, (.p (.bin .quo (.tmp 30) (.con (.int .i64 4))))⟩
  (.op ⟨(some 32), none, (.p (.bin .mul (.tmp 31) (.con (.int .i64 2))))⟩
  (.op ⟨(some 33), none, (.p (.bin .add (.tmp 29) (.tmp 32)))⟩
  (.op ⟨(some 34), none, (.p (.bin .add (.tmp 33) (.con (.int .i64 1))))⟩
  (.op ⟨(some 35), none, (.p (.bin .leq (.tmp 28) (.tmp 34)))⟩
  .done)))))))))
 (.cond (.tmp 35)
 .skip
 (.exit 0)))
 (.seq (.block 1 (.seq (.ops [] (.op ⟨(some 38), none, (.call 88 [(.tmp 9)])⟩
  (.op ⟨(some 39), none, (.p (.val (.tmp 10)))⟩
  (.op ⟨(some 40), none, (.p (.bin .sub (.tmp 39) (.con (.int .u64 1))))⟩
  (.op ⟨(some 41), none, (.p (.bin .and (.tmp 38) (.tmp 40)))⟩
  (.op ⟨(some 42), none, (.p (.cvi .i64 (.tmp 41)))⟩
  (.op ⟨(some 12), none, (.p (.val (.tmp 42)))⟩
  .done)))))))
 (.seq (.seq (.ops [] (.op ⟨(some 43), none, (.p (.val (.tmp 12)))⟩
  (.op ⟨(some 44), none, (.p (.val (.tmp 8)))⟩
  (.op ⟨(some 45), none, (.p (.bin .geq (.tmp 43) (.tmp 44)))⟩
  .done))))
 (.cond (.tmp 45)
 (.ops [] (.op ⟨(some 46), none, (.p (.val (.tmp 12)))⟩
  (.op ⟨(some 47), none, (.p (.val (.tmp 8)))⟩
  (.op ⟨(some 48), none, (.p (.bin .sub (.tmp 46) (.tmp 47)))⟩
  (.op ⟨(some 12), none, (.p (.val (.tmp 48)))⟩
  .done)))))
 .skip))
 (.ops [] (.op ⟨(some 49), none, (.p (.val (.tmp 0)))⟩
  (.op ⟨(some 50), none, (.p (.val (.tmp 11)))⟩
  (.op ⟨(some 51), none, (.p (.val (.tmp 0)))⟩
  (.op ⟨(some 52), none, (.p (.val (.tmp 1)))⟩
  (.op ⟨(some 53), none, (.p (.val (.tmp 12)))⟩
  (.op ⟨(some 54), none, (.p (.bin .add (.tmp 52) (.tmp 53)))⟩
  (.op ⟨(some 55), none, (.p (.val (.tmp 0)))⟩
  (.op ⟨(some 56), none, (.p (.val (.tmp 1)))⟩
  (.op ⟨(some 57), none, (.p (.val (.tmp 12)))⟩
  (.op ⟨(some 58), none, (.p (.bin .add (.tmp 56) (.tmp 57)))⟩
  (.op ⟨(some 59), none, (.p (.iaddr 2 (.tmp 55) (.tmp 58)))⟩
  (.op ⟨(some 60), none, (.p (.loadi true 2 (.tmp 59)))⟩
  (.op ⟨(some 61), none, (.p (.val (.tmp 0)))⟩
  (.op ⟨(some 62), none, (.p (.val (.tmp 11)))⟩
  (.op ⟨(some 63), none, (.p (.iaddr 2 (.tmp 61) (.tmp 62)))⟩
  (.op ⟨(some 64), none, (.p (.loadi true 2 (.tmp 63)))⟩
  (.op ⟨(some 65), none, (.p (.iaddr 2 (.tmp 49) (.tmp 50)))⟩
  (.op ⟨none, none, (.store 2 (.tmp 65) (.tmp 60))⟩
  (.op ⟨(some 66), none, (.p (.iaddr 2 (.tmp 51) (.tmp 54)))⟩
  (.op ⟨none, none, (.store 2 (.tmp 66) (.tmp 64))⟩
  .done))))))))))))))))))))))))
 (.ops [] (.op ⟨(some 36), none, (.p (.val (.tmp 11)))⟩
  (.op ⟨(some 37), none, (.p (.bin .add (.tmp 36) (.con (.int .i64 1))))⟩
  (.op ⟨(some 11), none, (.p (.val (.tmp 37)))⟩
  .done)))))))))))
 .skip)))⟩
theorem i74_is : compFunc Tryd.prog ⟨[], [], [59, 63, 65, 66]⟩ [] 74 = some i74 := by kernel_rfl

/-- slices.choosePivotCmpFunc[baton/fence.place] -/
def i75 : IFn := ⟨4, 63, [.tmp 8, .tmp 9],
 (.seq (.ops [] (.op ⟨(some 8), none, (.p (.val (.con (.int .i64 0))))⟩
  (.op ⟨(some 9), none, (.p (.val (.con (.int .i64 0))))⟩
  .done)))
 (.seq (.ops [] (.op ⟨(some 15), none, (.p (.val (.tmp 2)))⟩
  (.op ⟨(some 16), none, (.p (.val (.tmp 1)))⟩
  (.op ⟨(some 17), none, (.p (.bin .sub (.tmp 15) (.tmp 16)))⟩
  (.op ⟨(some 10), none, (.p (.val (.tmp 17)))⟩
  .done)))))
 (.seq (.ops [] (.op ⟨(some 11), none, (.alloc [(.int .i64 0)])⟩
  .done))
 (.seq (.ops [] (.op ⟨(some 18), none, (.p (.val (.tmp 1)))⟩
  (.op ⟨(some 19), none, (.p (.val (.tmp 10)))⟩
  (.op ⟨(some 20), none, (.p (.bin .quo (.tmp 19) (.con (.int .i64 4))))⟩
  (.op ⟨(some 21), none, (.p (.bin .mul (.tmp 20) (.con (.int .i64 1))))⟩
  (.op ⟨(some 22), none, (.p (.bin .add (.tmp 18) (.tmp 21)))⟩
  (.op ⟨(some 12), none, (.p (.val (.tmp 22)))⟩
  .done)))))))
 (.seq (.ops [] (.op ⟨(some 23), none, (.p (.val (.tmp 1)))⟩
  (.op ⟨(some 24), none, (.p (.val (.tmp 10)))⟩
  (.op ⟨(some 25), none, (.p (.bin .quo (.tmp 24) (.con (.int .i64 4))))⟩
  (.op ⟨(some 26), none, (.p (.bin .mul (.tmp 25) (.con (.int .i64 2))))⟩
  (.op ⟨(some 27), none, (.p (.bin .add (.tmp 23) (.tmp 26)))⟩
  (.op ⟨(some 13), none, (.p (.val (.tmp 27)))⟩
  .done)))))))
 (.seq (.ops [] (.op ⟨(some 28), none, (.p (.val (.tmp 1)))⟩
  (.op ⟨(some 29), none, (.p (.val (.tmp 10)))⟩
  (.op ⟨(some 30), none, (.p (.bin .quo (.tmp 29) (.con (.int .i64 4))))⟩
  (.op ⟨(some 31), none, (.p (.bin .mul (.tmp 30) (.con (.int .i64 3))))⟩
  (.op ⟨(some 32), none, (.p (.bin .add (.tmp 28) (.tmp 31)))⟩
  (.op ⟨(some 14), none, (.p (.val (.tmp 32)))⟩
  .done)))))))
 (.seq (.seq (.ops [] (.op ⟨(some 33), none, (.p (.val (.tmp 10)))⟩
  (.op ⟨(some 34), none, (.p (.bin .geq (.tmp 33) (.con (.int .i64 8))))⟩
  .done)))
 (.cond (.tmp 34)
 (.seq (.seq (.ops [] (.op ⟨(some 35), none, (.p (.val (.tmp 10)))⟩
  (.op ⟨(some 36), none, (.p (.bin .geq (.tmp 35) (.con (.int .i64 50))))⟩
  .done)))
 (.cond (.tmp 36)
 (.seq (.ops [] (.op ⟨(some 37), none, (.p (.val (.tmp 0)))⟩
  (.op ⟨(some 38), none, (.p (.val (.tmp 12)))⟩
  (.op ⟨(some 39), none, (.p (.val (.tmp 3)))⟩
  (.op ⟨(some 40), none, (.call 89 [(.tmp 37), (.tmp 38), (.tmp 11), (.tmp 39)])⟩
  (.op ⟨(some 12), none, (.p (.val (.tmp 40)))⟩
  .done))))))
 (.seq (.ops [] (.op ⟨(some 41), none, (.p (.val (.tmp 0)))⟩
  (.op ⟨(some 42), none, (.p (.val (.tmp 13)))⟩
  (.op ⟨(some 43), none, (.p (.val (.tmp 3)))⟩
  (.op ⟨(some 44), none, (.call 89 [(.tmp 41), (.tmp 42), (.tmp 11), (.tmp 43)])⟩
  (.op ⟨(some 13), none, (.p (.val (.tmp 44)))⟩
  .done))))))
 (.ops [] (.op ⟨(some 45), none, (.p (.val (.tmp 0)))⟩
  (.op ⟨(some 46), none, (.p (.val (.tmp 14)))⟩
  (.op ⟨(some 47), none, (.p (.val (.tmp 3)))⟩
  (.op ⟨(some 48), none, (.call 89 [(.tmp 45), (.tmp 46), (.tmp 11), (.tmp 47)])⟩
  (.op ⟨(some 14), none, (.p (.val (.tmp 48)))⟩
  .done))))))))
 .skip))
 (.ops [] (.op ⟨(some 49), none, (.p (.val (.tmp 0)))⟩
  (.op ⟨(some 50), none, (.p (.val (.tmp 12)))⟩
  (.op ⟨(some 51), none, (.p (.val (.tmp 13)))⟩
  (.op ⟨(some 52), none, (.p (.val (.tmp 14)))⟩
  (.op ⟨(some 53), none, (.p (.val (.tmp 3)))⟩
  (.op ⟨(some 54), none, (.call 90 [(.tmp 49), (.tmp 50), (.tmp 51), (.tmp 52), (.tmp 11), (.tmp 53)])⟩
  (.op ⟨(some 13), none, (.p (.val (.tmp 54)))⟩
  .done)))))))))
 .skip))
 (.seq (.ops [] (.op ⟨(some 55), none, (.load false 1 (.tmp 11))⟩
  .done))
 (.block 0 (.seq (.ops [] (.op ⟨(some 58), none, (.p (.bin .eql (.tmp 55) (.con (.int .i64 0))))⟩
  (.op ⟨(some 57), none, (.p (.val (.tmp 58)))⟩
  .done)))
 (.cond (.tmp 57)
 (.seq (.ops [] (.op ⟨(some 59), none, (.p (.val (.tmp 13)))⟩
  (.op ⟨(some 8), none, (.p (.val (.tmp 59)))⟩
  (.op ⟨(some 9), none, (.p (.val (.con (.int .i64 1))))⟩
  .done))))
 .ret)
 (.seq (.ops [] (.op ⟨(some 61), none, (.p (.bin .eql (.tmp 55) (.con (.int .i64 12))))⟩
  (.op ⟨(some 60), none, (.p (.val (.tmp 61)))⟩
  .done)))
 (.cond (.tmp 60)
 (.seq (.ops [] (.op ⟨(some 62), none, (.p (.val (.tmp 13)))⟩
  (.op ⟨(some 8), none, (.p (.val (.tmp 62)))⟩
  (.op ⟨(some 9), none, (.p (.val (.con (.int .i64 2))))⟩
  .done))))
 .ret)
 (.seq (.ops [] (.op ⟨(some 56), none, (.p (.val (.tmp 13)))⟩
  (.op ⟨(some 8), none, (.p (.val (.tmp 56)))⟩
  (.op ⟨(some 9), none, (.p (.val (.con (.int .i64 0))))⟩
  .done))))
 .ret))))))))))))))⟩
theorem i75_is : compFunc Tryd.prog ⟨[], [], []⟩ [] 75 = some i75 := by kernel_rfl

/-- slices.reverseRangeCmpFunc[baton/fence.place] -/
def i76 : IFn := ⟨4, 34, [],
 (.seq (.ops [] (.op ⟨(some 10), none, (.p (.val (.tmp 1)))⟩
  (.op ⟨(some 8), none, (.p (.val (.tmp 10)))⟩
  .done)))
 (.seq (.ops [] (.op ⟨(some 11), none, (.p (.val (.tmp 2)))⟩
  (.op ⟨(some 12), none, (.p (.bin .sub (.tmp 11) (.con (.int .i64 1))))⟩
  (.op ⟨(some 9), none, (.p (.val (.tmp 12)))⟩
  .done))))
 (.block 0 (.loop (.seq (.seq (.ops [] (.op ⟨(some 13), none, (.p (.val (.tmp 8)))⟩
  (.op ⟨(some 14), none, (.p (.val (.tmp 9)))⟩
  (.op ⟨(some 15), none, (.p (.bin .lss (.tmp 13) (.tmp 14)))⟩
  .done))))
 (.cond (.tmp 15)
 .skip
 (.exit 0)))
 (.block 1 (.seq (.ops [] (.op ⟨(some 16), none, (.p (.val (.tmp 0)))⟩
  (.op ⟨(some 17), none, (.p (.val (.tmp 8)))⟩
  (.op ⟨(some 18), none, (.p (.val (.tmp 0)))⟩
  (.op ⟨(some 19), none, (.p (.val (.tmp 9)))⟩
  (.op ⟨(some 20), none, (.p (.val (.tmp 0)))⟩
  (.op ⟨(some 21), none, (.p (.val (.tmp 9)))⟩
  (.op ⟨(some 22), none, (.p (.iaddr 2 (.tmp 20) (.tmp 21)))⟩
  (.op ⟨(some 23), none, (.p (.loadi true 2 (.tmp 22)))⟩
  (.op ⟨(some 24), none, (.p (.val (.tmp 0)))⟩
  (.op ⟨(some 25), none, (.p (.val (.tmp 8)))⟩
  (.op ⟨(some 26), none, (.p (.iaddr 2 (.tmp 24) (.tmp 25)))⟩
  (.op ⟨(some 27), none, (.p (.loadi true 2 (.tmp 26)))⟩
  (.op ⟨(some 28), none, (.p (.iaddr 2 (.tmp 16) (.tmp 17)))⟩
  (.op ⟨none, none, (.store 2 (.tmp 28) (.tmp 23))⟩
  (.op ⟨(some 29), none, (.p (.iaddr 2 (.tmp 18) (.tmp 19)))⟩
  (.op ⟨none, none, (.store 2 (.tmp 29) (.tmp 27))⟩
  .done)))))))))))))))))
 (.seq (.ops [] (.op ⟨(some 30), none, (.p (.val (.tmp 8)))⟩
  (.op ⟨(some 31), none, (.p (.bin .add (.tmp 30) (.con (.int .i64 1))))⟩
  (.op ⟨(some 8), none, (.p (.val (.tmp 31)))⟩
  .done))))
 (.ops [] (.op ⟨(some 32), none, (.p (.val (.tmp 9)))⟩
  (.op ⟨(some 33), none, (.p (.bin .sub (.tmp 32) (.con (.int .i64 1))))⟩
  (.op ⟨(some 9), none, (.p (.val (.tmp 33)))⟩
  .done))))))))))))⟩
theorem i76_is : compFunc Tryd.prog ⟨[], [], [22, 26, 28, 29]⟩ [] 76 = some i76 := by kernel_rfl

/-- slices.partialInsertionSortCmpFunc[baton/fence.place] -/
def i77 : IFn := ⟨4, 141, [.tmp 8],
 (.seq (.ops [] (.op ⟨(some 8), none, (.p (.val (.con (.bool false))))⟩
  .done))
 (.seq (.ops [] (.op ⟨(some 13), none, (.p (.val (.tmp 1)))⟩
  (.op ⟨(some 14), none, (.p (.bin .add (.tmp 13) (.con (.int .i64 1))))⟩
  (.op ⟨(some 9), none, (.p (.val (.tmp 14)))⟩
  .done))))
 (.seq (.seq (.ops [] (.op ⟨(some 10), none, (.p (.val (.con (.int .i64 0))))⟩
  .done))
 (.block 0 (.loop (.seq (.seq (.ops [] (.op ⟨(some 15), none, (.p (.val (.tmp 10)))⟩
  (.op ⟨(some 16), none, (.p (.bin .lss (.tmp 15) (.con (.int .i64 5))))⟩
  .done)))
 (.cond (.tmp 16)
 .skip
 (.exit 0)))
 (.seq (.block 1 (.seq (.block 2 (.loop (.seq (.seq (.ops [] (.op ⟨(some 19), none, (.p (.val (.tmp 9)))⟩
  (.op ⟨(some 20), none, (.p (.val (.tmp 2)))⟩
  (.op ⟨(some 21), none, (.p (.bin .lss (.tmp 19) (.tmp 20)))⟩
  (.op ⟨(some 22), none, (.p (.val (.tmp 21)))⟩
  (.op ⟨(some 23), (some (22, true)), (.p (.val (.tmp 3)))⟩
  (.op ⟨(some 24), (some (22, true)), (.p (.val (.tmp 0)))⟩
  (.op ⟨(some 25), (some (22, true)), (.p (.val (.tmp 9)))⟩
  (.op ⟨(some 26), (some (22, true)), (.p (.iaddr 2 (.tmp 24) (.tmp 25)))⟩
  (.op ⟨(some 27), (some (22, true)), (.p (.loadi true 2 (.tmp 26)))⟩
  (.op ⟨(some 28), (some (22, true)), (.p (.val (.tmp 0)))⟩
  (.op ⟨(some 29), (some (22, true)), (.p (.val (.tmp 9)))⟩
  (.op ⟨(some 30), (some (22, true)), (.p (.bin .sub (.tmp 29) (.con (.int .i64 1))))⟩
  (.op ⟨(some 31), (some (22, true)), (.p (.iaddr 2 (.tmp 28) (.tmp 30)))⟩
  (.op ⟨(some 32), (some (22, true)), (.p (.loadi true 2 (.tmp 31)))⟩
  (.op ⟨(some 33), (some (22, true)), (.callv (.tmp 23) [(.tmp 27), (.tmp 32)])⟩
  (.op ⟨(some 34), (some (22, true)), (.p (.bin .lss (.tmp 33) (.con (.int .i64 0))))⟩
  (.op ⟨(some 35), (some (22, true)), (.p (.un .not (.tmp 34)))⟩
  (.op ⟨(some 36), none, (.p (.pick (.tmp 22) (.tmp 35) (.con (.bool false))))⟩
  .done)))))))))))))))))))
 (.cond (.tmp 36)
 .skip
 (.exit 2)))
 (.block 3 (.ops [] (.op ⟨(some 37), none, (.p (.val (.tmp 9)))⟩
  (.op ⟨(some 38), none, (.p (.bin .add (.tmp 37) (.con (.int .i64 1))))⟩
  (.op ⟨(some 9), none, (.p (.val (.tmp 38)))⟩
  .done))))))))
 (.seq (.seq (.ops [] (.op ⟨(some 39), none, (.p (.val (.tmp 9)))⟩
  (.op ⟨(some 40), none, (.p (.val (.tmp 2)))⟩
  (.op ⟨(some 41), none, (.p (.bin .eql (.tmp 39) (.tmp 40)))⟩
  .done))))
 (.cond (.tmp 41)
 (.seq (.ops [] (.op ⟨(some 8), none, (.p (.val (.con (.bool true))))⟩
  .done))
 .ret)
 .skip))
 (.seq (.seq (.ops [] (.op ⟨(some 42), none, (.p (.val (.tmp 2)))⟩
  (.op ⟨(some 43), none, (.p (.val (.tmp 1)))⟩
  (.op ⟨(some 44), none, (.p (.bin .sub (.tmp 42) (.tmp 43)))⟩
  (.op ⟨(some 45), none, (.p (.bin .lss (.tmp 44) (.con (.int .i64 50))))⟩
  .done)))))
 (.cond (.tmp 45)
 (.seq (.ops [] (.op ⟨(some 8), none, (.p (.val (.con (.bool false))))⟩
  .done))
 .ret)
 .skip))
 (.seq (.ops [] (.op ⟨(some 46), none, (.p (.val (.tmp 0)))⟩
  (.op ⟨(some 47), none, (.p (.val (.tmp 9)))⟩
  (.op ⟨(some 48), none, (.p (.val (.tmp 0)))⟩
  (.op ⟨(some 49), none, (.p (.val (.tmp 9)))⟩
  (.op ⟨(some 50), none, (.p (.bin .sub (.tmp 49) (.con (.int .i64 1))))⟩
  (.op ⟨(some 51), none, (.p (.val (.tmp 0)))⟩
  (.op ⟨(some 52), none, (.p (.val (.tmp 9)))⟩
  (.op ⟨(some 53), none, (.p (.bin .sub (.tmp 52) (.con (.int .i64 1))))⟩
  (.op ⟨(some 54), none, (.p (.iaddr 2 (.tmp 51) (.tmp 53)))⟩
  (.op ⟨(some 55), none, (.p (.loadi true 2 (.tmp 54)))⟩
  (.op ⟨(some 56), none, (.p (.val (.tmp 0)))⟩
  (.op ⟨(some 57), none, (.p (.val (.tmp 9)))⟩
  (.op ⟨(some 58), none, (.p (.iaddr 2 (.tmp 56) (.tmp 57)))⟩
  (.op ⟨(some 59), none, (.p (.loadi true 2 (.tmp 58)))⟩
  (.op ⟨(some 60), none, (.p (.iaddr 2 (.tmp 46) (.tmp 47)))⟩
  (.op ⟨none, none, (.store 2 (.tmp 60) (.tmp 55))⟩
  (.op ⟨(some 61), none, (.p (.iaddr 2 (.tmp 48) (.tmp 50)))⟩
  (.op ⟨none, none, (.store 2 (.tmp 61) (.tmp 59))⟩
  .done)))))))))))))))))))
 (.seq (.seq (.ops [] (.op ⟨(some 62), none, (.p (.val (.tmp 9)))⟩
  (.op ⟨(some 63), none, (.p (.val (.tmp 1)))⟩
  (.op ⟨(some 64), none, (.p (.bin .sub (.tmp 62) (.tmp 63)))⟩
  (.op ⟨(some 65), none, (.p (.bin .geq (.tmp 64) (.con (.int .i64 2))))⟩
  .done)))))
 (.cond (.tmp 65)
 (.seq (.ops [] (.op ⟨(some 66), none, (.p (.val (.tmp 9)))⟩
  (.op ⟨(some 67), none, (.p (.bin .sub (.tmp 66) (.con (.int .i64 1))))⟩
  (.op ⟨(some 11), none, (.p (.val (.tmp 67)))⟩
  .done))))
 (.block 4 (.loop (.seq (.seq (.ops [] (.op ⟨(some 68), none, (.p (.val (.tmp 11)))⟩
  (.op ⟨(some 69), none, (.p (.bin .geq (.tmp 68) (.con (.int .i64 1))))⟩
  .done)))
 (.cond (.tmp 69)
 .skip
 (.exit 4)))
 (.seq (.block 5 (.seq (.seq (.ops [] (.op ⟨(some 72), none, (.p (.val (.tmp 3)))⟩
  (.op ⟨(some 73), none, (.p (.val (.tmp 0)))⟩
  (.op ⟨(some 74), none, (.p (.val (.tmp 11)))⟩
  (.op ⟨(some 75), none, (.p (.iaddr 2 (.tmp 73) (.tmp 74)))⟩
  (.op ⟨(some 76), none, (.p (.loadi true 2 (.tmp 75)))⟩
  (.op ⟨(some 77), none, (.p (.val (.tmp 0)))⟩
  (.op ⟨(some 78), none, (.p (.val (.tmp 11)))⟩
  (.op ⟨(some 79), none, (.p (.bin .sub (.tmp 78) (.con (.int .i64 1))))⟩
  (.op ⟨(some 80), none, (.p (.iaddr 2 (.tmp 77) (.tmp 79)))⟩
  (.op ⟨(some 81), none, (.p (.loadi true 2 (.tmp 80)))⟩
  (.op ⟨(some 82), none, (.callv (.tmp 72) [(.tmp 76), (.tmp 81)])⟩
  (.op ⟨(some 83), none, (.p (.bin .lss (.tmp 82) (.con (.int .i64 0))))⟩
  (.op ⟨(some 84), none, (.p (.un .not (.tmp 83)))⟩
  .done))))))))))))))
 (.cond (.tmp 84)
 (.exit 4)
 .skip))
 (.ops [] (.op ⟨(some 85), none, (.p (.val (.tmp 0)))⟩
  (.op ⟨(some 86), none, (.p (.val (.tmp 11)))⟩
  (.op ⟨(some 87), none, (.p (.val (.tmp 0)))⟩
  (.op ⟨(some 88), none, (.p (.val (.tmp 11)))⟩
  (.op ⟨(some 89), none, (.p (.bin .sub (.tmp 88) (.con (.int .i64 1))))⟩
  (.op ⟨(some 90), none, (.p (.val (.tmp 0)))⟩
  (.op ⟨(some 91), none, (.p (.val (.tmp 11)))⟩
  (.op ⟨(some 92), none, (.p (.bin .sub (.tmp 91) (.con (.int .i64 1))))⟩
  (.op ⟨(some 93), none, (.p (.iaddr 2 (.tmp 90) (.tmp 92)))⟩
  (.op ⟨(some 94), none, (.p (.loadi true 2 (.tmp 93)))⟩
  (.op ⟨(some 95), none, (.p (.val (.tmp 0)))⟩
  (.op ⟨(some 96), none, (.p (.val (.tmp 11)))⟩
  (.op ⟨(some 97), none, (.p (.iaddr 2 (.tmp 95) (.tmp 96)))⟩
  (.op ⟨(some 98), none, (.p (.loadi true 2 (.tmp 97)))⟩
  (.op ⟨(some 99), none, (.p (.iaddr 2 (.tmp 85) (.tmp 86)))⟩
  (.op ⟨none, none, (.store 2 (.tmp 99) (.tmp 94))⟩
  (.op ⟨(some 100), none, (.p (.iaddr 2 (.tmp 87) (.tmp 89)))⟩
  (.op ⟨none, none, (.store 2 (.tmp 100) (.tmp 98))⟩
  .done)))))))))))))))))))))
 (.ops [] (.op ⟨(some 70), none, (.p (.val (.tmp 11)))⟩
  (.op ⟨(some 71), none, (.p (.bin .sub (.tmp 70) (.con (.int .i64 1))))⟩
  (.op ⟨(some 11), none, (.p (.val (.tmp 71)))⟩
  .done)))))))))
 .skip))
 (.seq (.ops [] (.op ⟨(some 101), none, (.p (.val (.tmp 2)))⟩
  (.op ⟨(some 102), none, (.p (.val (.tmp 9)))⟩
  (.op ⟨(some 103), none, (.p (.bin .sub (.tmp 101) (.tmp 102)))⟩
  (.op ⟨(some 104), none, (.p (.bin .geq (.tmp 103) (.con (.int .i64 2))))⟩
  .done)))))
 (.cond (.tmp 104)
 (.seq (.ops [] (.op ⟨(some 105), none, (.p (.val (.tmp 9)))⟩
  (.op ⟨(some 106), none, (.p (.bin .add (.tmp 105) (.con (.int .i64 1))))⟩
  (.op ⟨(some 12), none, (.p (.val (.tmp 106)))⟩
  .done))))
 (.block 6 (.loop (.seq (.seq (.ops [] (.op ⟨(some 107), none, (.p (.val (.tmp 12)))⟩
  (.op ⟨(some 108), none, (.p (.val (.tmp 2)))⟩
  (.op ⟨(some 109), none, (.p (.bin .lss (.tmp 107) (.tmp 108)))⟩
  .done))))
 (.cond (.tmp 109)
 .skip
 (.exit 6)))
 (.seq (.block 7 (.seq (.seq (.ops [] (.op ⟨(some 112), none, (.p (.val (.tmp 3)))⟩
  (.op ⟨(some 113), none, (.p (.val (.tmp 0)))⟩
  (.op ⟨(some 114), none, (.p (.val (.tmp 12)))⟩
  (.op ⟨(some 115), none, (.p (.iaddr 2 (.tmp 113) (.tmp 114)))⟩
  (.op ⟨(some 116), none, (.p (.loadi true 2 (.tmp 115)))⟩
  (.op ⟨(some 117), none, (.p (.val (.tmp 0)))⟩
  (.op ⟨(some 118), none, (.p (.val (.tmp 12)))⟩
  (.op ⟨(some 119), none, (.p (.bin .sub (.tmp 118) (.con (.int .i64 1))))⟩
  (.op ⟨(some 120), none, (.p (.iaddr 2 (.tmp 117) (.tmp 119)))⟩
  (.op ⟨(some 121), none, (.p (.loadi true 2 (.tmp 120)))⟩
  (.op ⟨(some 122), none, (.callv (.tmp 112) [(.tmp 116), (.tmp 121)])⟩
  (.op ⟨(some 123), none, (.p (.bin .lss (.tmp 122) (.con (.int .i64 0))))⟩
  (.op ⟨(some 124), none, (.p (.un .not (.tmp 123)))⟩
  .done))))))))))))))
 (.cond (.tmp 124)
 (.exit 6)
 .skip))
 (.ops [] (.op ⟨(some 125), none, (.p (.val (.tmp 0)))⟩
  (.op ⟨(some 126), none, (.p (.val (.tmp 12)))⟩
  (.op ⟨(some 127), none, (.p (.val (.tmp 0)))⟩
  (.op ⟨(some 128), none, (.p (.val (.tmp 12)))⟩
  (.op ⟨(some 129), none, (.p (.bin .sub (.tmp 128) (.con (.int .i64 1))))⟩
  (.op ⟨(some 130), none, (.p (.val (.tmp 0)))⟩
  (.op ⟨(some 131), none, (.p (.val (.tmp 12)))⟩
  (.op ⟨(some 132), none, (.p (.bin .sub (.tmp 131) (.con (.int .i64 1))))⟩
  (.op ⟨(some 133), none, (.p (.iaddr 2 (.tmp 130) (.tmp 132)))⟩
  (.op ⟨(some 134), none, (.p (.loadi true 2 (.tmp 133)))⟩
  (.op ⟨(some 135), none, (.p (.val (.tmp 0)))⟩
  (.op ⟨(some 136), none, (.p (.val (.tmp 12)))⟩
  (.op ⟨(some 137), none, (.p (.iaddr 2 (.tmp 135) (.tmp 136)))⟩
  (.op ⟨(some 138), none, (.p (.loadi true 2 (.tmp 137)))⟩
  (.op ⟨(some 139), none, (.p (.iaddr 2 (.tmp 125) (.tmp 126)))⟩
  (.op ⟨none, none, (.store 2 (.tmp 139) (.tmp 134))⟩
  (.op ⟨(some 140), none, (.p (.iaddr 2 (.tmp 127) (.tmp 129)))⟩
  (.op ⟨none, none, (.store 2 (.tmp 140) (.tmp 138))⟩
  .done)))))))))))))))))))))
 (.ops [] (.op ⟨(some 110), none, (.p (.val (.tmp 12)))⟩
  (.op ⟨(some 111), none, (.p (.bin .add (.tmp 110) (.con (.int .i64 1))))⟩
  (.op ⟨(some 12), none, (.p (.val (.tmp 111)))⟩
  .done)))))))))
 .skip))))))))
 (.ops [] (.op ⟨(some 17), none, (.p (.val (.tmp 10)))⟩
  (.op ⟨(some 18), none, (.p (.bin .add (.tmp 17) (.con (.int .i64 1))))⟩
  (.op ⟨(some 10), none, (.p (.val (.tmp 18)))⟩
  .done)))))))))
 (.seq (.ops [] (.op ⟨(some 8), none, (.p (.val (.con (.bool false))))⟩
  .done))
 .ret))))⟩
theorem i77_is : compFunc Tryd.prog ⟨[], [], [26, 31, 54, 58, 60, 61, 75, 80, 93, 97, 99, 100, 115, 120, 133, 137, 139, 140]⟩ [] 77 = some i77 := by kernel_rfl

/-- slices.partitionEqualCmpFunc[baton/fence.place] -/
def i78 : IFn := ⟨5, 90, [.tmp 10],
 (.seq (.ops [] (.op ⟨(some 10), none, (.p (.val (.con (.int .i64 0))))⟩
  .done))
 (.seq (.ops [] (.op ⟨(some 13), none, (.p (.val (.tmp 0)))⟩
  (.op ⟨(some 14), none, (.p (.val (.tmp 1)))⟩
  (.op ⟨(some 15), none, (.p (.val (.tmp 0)))⟩
  (.op ⟨(some 16), none, (.p (.val (.tmp 3)))⟩
  (.op ⟨(some 17), none, (.p (.val (.tmp 0)))⟩
  (.op ⟨(some 18), none, (.p (.val (.tmp 3)))⟩
  (.op ⟨(some 19), none, (.p (.iaddr 2 (.tmp 17) (.tmp 18)))⟩
  (.op ⟨(some 20), none, (.p (.loadi true 2 (.tmp 19)))⟩
  (.op ⟨(some 21), none, (.p (.val (.tmp 0)))⟩
  (.op ⟨(some 22), none, (.p (.val (.tmp 1)))⟩
  (.op ⟨(some 23), none, (.p (.iaddr 2 (.tmp 21) (.tmp 22)))⟩
  (.op ⟨(some 24), none, (.p (.loadi true 2 (.tmp 23)))⟩
  (.op ⟨(some 25), none, (.p (.iaddr 2 (.tmp 13) (.tmp 14)))⟩
  (.op ⟨none, none, (.store 2 (.tmp 25) (.tmp 20))⟩
  (.op ⟨(some 26), none, (.p (.iaddr 2 (.tmp 15) (.tmp 16)))⟩
  (.op ⟨none, none, (.store 2 (.tmp 26) (.tmp 24))⟩
  .done)))))))))))))))))
 (.seq (.ops [] (.op ⟨(some 27), none, (.p (.val (.tmp 1)))⟩
  (.op ⟨(some 28), none, (.p (.bin .add (.tmp 27) (.con (.int .i64 1))))⟩
  (.op ⟨(some 29), none, (.p (.val (.tmp 2)))⟩
  (.op ⟨(some 30), none, (.p (.bin .sub (.tmp 29) (.con (.int .i64 1))))⟩
  (.op ⟨(some 11), none, (.p (.val (.tmp 28)))⟩
  (.op ⟨(some 12), none, (.p (.val (.tmp 30)))⟩
  .done)))))))
 (.seq (.block 0 (.loop (.block 1 (.seq (.block 2 (.loop (.seq (.seq (.ops [] (.op ⟨(some 31), none, (.p (.val (.tmp 11)))⟩
  (.op ⟨(some 32), none, (.p (.val (.tmp 12)))⟩
  (.op ⟨(some 33), none, (.p (.bin .leq (.tmp 31) (.tmp 32)))⟩
  (.op ⟨(some 34), none, (.p (.val (.tmp 33)))⟩
  (.op ⟨(some 35), (some (34, true)), (.p (.val (.tmp 4)))⟩
  (.op ⟨(some 36), (some (34, true)), (.p (.val (.tmp 0)))⟩
  (.op ⟨(some 37), (some (34, true)), (.p (.val (.tmp 1)))⟩
  (.op ⟨(some 38), (some (34, true)), (.p (.iaddr 2 (.tmp 36) (.tmp 37)))⟩
  (.op ⟨(some 39), (some (34, true)), (.p (.loadi true 2 (.tmp 38)))⟩
  (.op ⟨(some 40), (some (34, true)), (.p (.val (.tmp 0)))⟩
  (.op ⟨(some 41), (some (34, true)), (.p (.val (.tmp 11)))⟩
  (.op ⟨(some 42), (some (34, true)), (.p (.iaddr 2 (.tmp 40) (.tmp 41)))⟩
  (.op ⟨(some 43), (some (34, true)), (.p (.loadi true 2 (.tmp 42)))⟩
  (.op ⟨(some 44), (some (34, true)), (.callv (.tmp 35) [(.tmp 39), (.tmp 43)])⟩
  (.op ⟨(some 45), (some (34, true)), (.p (.bin .lss (.tmp 44) (.con (.int .i64 0))))⟩
  (.op ⟨(some 46), (some (34, true)), (.p (.un .not (.tmp 45)))⟩
  (.op ⟨(some 47), none, (.p (.pick (.tmp 34) (.tmp 46) (.con (.bool false))))⟩
  .done))))))))))))))))))
 (.cond (.tmp 47)
 .skip
 (.exit 2)))
 (.block 3 (.ops [] (.op ⟨(some 48), none, (.p (.val (.tmp 11)))⟩
  (.op ⟨(some 49), none, (.p (.bin .add (.tmp 48) (.con (.int .i64 1))))⟩
  (.op ⟨(some 11), none, (.p (.val (.tmp 49)))⟩
  .done))))))))
 (.seq (.block 4 (.loop (.seq (.seq (.ops [] (.op ⟨(some 50), none, (.p (.val (.tmp 11)))⟩
  (.op ⟨(some 51), none, (.p (.val (.tmp 12)))⟩
  (.op ⟨(some 52), none, (.p (.bin .leq (.tmp 50) (.tmp 51)))⟩
  (.op ⟨(some 53), none, (.p (.val (.tmp 52)))⟩
  (.op ⟨(some 54), (some (53, true)), (.p (.val (.tmp 4)))⟩
  (.op ⟨(some 55), (some (53, true)), (.p (.val (.tmp 0)))⟩
  (.op ⟨(some 56), (some (53, true)), (.p (.val (.tmp 1)))⟩
  (.op ⟨(some 57), (some (53, true)), (.p (.iaddr 2 (.tmp 55) (.tmp 56)))⟩
  (.op ⟨(some 58), (some (53, true)), (.p (.loadi true 2 (.tmp 57)))⟩
  (.op ⟨(some 59), (some (53, true)), (.p (.val (.tmp 0)))⟩
  (.op ⟨(some 60), (some (53, true)), (.p (.val (.tmp 12)))⟩
  (.op ⟨(some 61), (some (53, true)), (.p (.iaddr 2 (.tmp 59) (.tmp 60)))⟩
  (.op ⟨(some 62), (some (53, true)), (.p (.loadi true 2 (.tmp 61)))⟩
  (.op ⟨(some 63), (some (53, true)), (.callv (.tmp 54) [(.tmp 58), (.tmp 62)])⟩
  (.op ⟨(some 64), (some (53, true)), (.p (.bin .lss (.tmp 63) (.con (.int .i64 0))))⟩
  (.op ⟨(some 65), none, (.p (.pick (.tmp 53) (.tmp 64) (.con (.bool false))))⟩
  .done)))))))))))))))))
 (.cond (.tmp 65)
 .skip
 (.exit 4)))
 (.block 5 (.ops [] (.op ⟨(some 66), none, (.p (.val (.tmp 12)))⟩
  (.op ⟨(some 67), none, (.p (.bin .sub (.tmp 66) (.con (.int .i64 1))))⟩
  (.op ⟨(some 12), none, (.p (.val (.tmp 67)))⟩
  .done))))))))
 (.seq (.seq (.ops [] (.op ⟨(some 68), none, (.p (.val (.tmp 11)))⟩
  (.op ⟨(some 69), none, (.p (.val (.tmp 12)))⟩
  (.op ⟨(some 70), none, (.p (.bin .gtr (.tmp 68) (.tmp 69)))⟩
  .done))))
 (.cond (.tmp 70)
 (.exit 0)
 .skip))
 (.seq (.ops [] (.op ⟨(some 71), none, (.p (.val (.tmp 0)))⟩
  (.op ⟨(some 72), none, (.p (.val (.tmp 11)))⟩
  (.op ⟨(some 73), none, (.p (.val (.tmp 0)))⟩
  (.op ⟨(some 74), none, (.p (.val (.tmp 12)))⟩
  (.op ⟨(some 75), none, (.p (.val (.tmp 0)))⟩
  (.op ⟨(some 76), none, (.p (.val (.tmp 12)))⟩
  (.op ⟨(some 77), none, (.p (.iaddr 2 (.tmp 75) (.tmp 76)))⟩
  (.op ⟨(some 78), none, (.p (.loadi true 2 (.tmp 77)))⟩
  (.op ⟨(some 79), none, (.p (.val (.tmp 0)))⟩
  (.op ⟨(some 80), none, (.p (.val (.tmp 11)))⟩
  (.op ⟨(some 81), none, (.p (.iaddr 2 (.tmp 79) (.tmp 80)))⟩
  (.op ⟨(some 82), none, (.p (.loadi true 2 (.tmp 81)))⟩
  (.op ⟨(some 83), none, (.p (.iaddr 2 (.tmp 71) (.tmp 72)))⟩
  (.op ⟨none, none, (.store 2 (.tmp 83) (.tmp 78))⟩
  (.op ⟨(some 84), none, (.p (.iaddr 2 (.tmp 73) (.tmp 74)))⟩
  (.op ⟨none, none, (.store 2 (.tmp 84) (.tmp 82))⟩
  .done)))))))))))))))))
 (.seq (.ops [] (.op ⟨(some 85), none, (.p (.val (.tmp 11)))⟩
  (.op ⟨(some 86), none, (.p (.bin .add (.tmp 85) (.con (.int .i64 1))))⟩
  (.op ⟨(some 11), none, (.p (.val (.tmp 86)))⟩
  .done))))
 (.ops [] (.op ⟨(some 87), none, (.p (.val (.tmp 12)))⟩
  (.op ⟨(some 88), none, (.p (.bin .sub (.tmp 87) (.con (.int .i64 1))))⟩
  (.op ⟨(some 12), none, (.p (.val (.tmp 88)))⟩
  .done))))))))))))
 (.seq (.ops [] (.op ⟨(some 89), none, (.p (.val (.tmp 11)))⟩
  (.op ⟨(some 10), none, (.p (.val (.tmp 89)))⟩
  .done)))
 .ret)))))⟩
theorem i78_is : compFunc Tryd.prog ⟨[], [], [19, 23, 25, 26, 38, 42, 57, 61, 77, 81, 83, 84]⟩ [] 78 = some i78 := by kernel_rfl

/-- slices.partitionCmpFunc[baton/fence.place] -/
def i79 : IFn := ⟨5, 178, [.tmp 10, .tmp 11],
 (.seq (.ops [] (.op ⟨(some 10), none, (.p (.val (.con (.int .i64 0))))⟩
  (.op ⟨(some 11), none, (.p (.val (.con (.bool false))))⟩
  .done)))
 (.seq (.ops [] (.op ⟨(some 14), none, (.p (.val (.tmp 0)))⟩
  (.op ⟨(some 15), none, (.p (.val (.tmp 1)))⟩
  (.op ⟨(some 16), none, (.p (.val (.tmp 0)))⟩
  (.op ⟨(some 17), none, (.p (.val (.tmp 3)))⟩
  (.op ⟨(some 18), none, (.p (.val (.tmp 0)))⟩
  (.op ⟨(some 19), none, (.p (.val (.tmp 3)))⟩
  (.op ⟨(some 20), none, (.p (.iaddr 2 (.tmp 18) (.tmp 19)))⟩
  (.op ⟨(some 21), none, (.p (.loadi true 2 (.tmp 20)))⟩
  (.op ⟨(some 22), none, (.p (.val (.tmp 0)))⟩
  (.op ⟨(some 23), none, (.p (.val (.tmp 1)))⟩
  (.op ⟨(some 24), none, (.p (.iaddr 2 (.tmp 22) (.tmp 23)))⟩
  (.op ⟨(some 25), none, (.p (.loadi true 2 (.tmp 24)))⟩
  (.op ⟨(some 26), none, (.p (.iaddr 2 (.tmp 14) (.tmp 15)))⟩
  (.op ⟨none, none, (.store 2 (.tmp 26) (.tmp 21))⟩
  (.op ⟨(some 27), none, (.p (.iaddr 2 (.tmp 16) (.tmp 17)))⟩
  (.op ⟨none, none, (.store 2 (.tmp 27) (.tmp 25))⟩
  .done)))))))))))))))))
 (.seq (.ops [] (.op ⟨(some 28), none, (.p (.val (.tmp 1)))⟩
  (.op ⟨(some 29), none, (.p (.bin .add (.tmp 28) (.con (.int .i64 1))))⟩
  (.op ⟨(some 30), none, (.p (.val (.tmp 2)))⟩
  (.op ⟨(some 31), none, (.p (.bin .sub (.tmp 30) (.con (.int .i64 1))))⟩
  (.op ⟨(some 12), none, (.p (.val (.tmp 29)))⟩
  (.op ⟨(some 13), none, (.p (.val (.tmp 31)))⟩
  .done)))))))
 (.seq (.block 0 (.loop (.seq (.seq (.ops [] (.op ⟨(some 32), none, (.p (.val (.tmp 12)))⟩
  (.op ⟨(some 33), none, (.p (.val (.tmp 13)))⟩
  (.op ⟨(some 34), none, (.p (.bin .leq (.tmp 32) (.tmp 33)))⟩
  (.op ⟨(some 35), none, (.p (.val (.tmp 34)))⟩
  (.op ⟨(some 36), (some (35, true)), (.p (.val (.tmp 4)))⟩
  (.op ⟨(some 37), (some (35, true)), (.p (.val (.tmp 0)))⟩
  (.op ⟨(some 38), (some (35, true)), (.p (.val (.tmp 12)))⟩
  (.op ⟨(some 39), (some (35, true)), (.p (.iaddr 2 (.tmp 37) (.tmp 38)))⟩
  (.op ⟨(some 40), (some (35, true)), (.p (.loadi true 2 (.tmp 39)))⟩
  (.op ⟨(some 41), (some (35, true)), (.p (.val (.tmp 0)))⟩
  (.op ⟨(some 42), (some (35, true)), (.p (.val (.tmp 1)))⟩
  (.op ⟨(some 43), (some (35, true)), (.p (.iaddr 2 (.tmp 41) (.tmp 42)))⟩
  (.op ⟨(some 44), (some (35, true)), (.p (.loadi true 2 (.tmp 43)))⟩
  (.op ⟨(some 45), (some (35, true)), (.callv (.tmp 36) [(.tmp 40), (.tmp 44)])⟩
  (.op ⟨(some 46), (some (35, true)), (.p (.bin .lss (.tmp 45) (.con (.int .i64 0))))⟩
  (.op ⟨(some 47), none, (.p (.pick (.tmp 35) (.tmp 46) (.con (.bool false))))⟩
  .done)))))))))))))))))
 (.cond (.tmp 47)
 .skip
 (.exit 0)))
 (.block 1 (.ops [] (.op ⟨(some 48), none, (.p (.val (.tmp 12)))⟩
  (.op ⟨(some 49), none, (.p (.bin .add (.tmp 48) (.con (.int .i64 1))))⟩
  (.op ⟨(some 12), none, (.p (.val (.tmp 49)))⟩
  .done))))))))
 (.seq (.block 2 (.loop (.seq (.seq (.ops [] (.op ⟨(some 50), none, (.p (.val (.tmp 12)))⟩
  (.op ⟨(some 51), none, (.p (.val (.tmp 13)))⟩
  (.op ⟨(some 52), none, (.p (.bin .leq (.tmp 50) (.tmp 51)))⟩
  (.op ⟨(some 53), none, (.p (.val (.tmp 52)))⟩
  (.op ⟨(some 54), (some (53, true)), (.p (.val (.tmp 4)))⟩
  (.op ⟨(some 55), (some (53, true)), (.p (.val (.tmp 0)))⟩
  (.op ⟨(some 56), (some (53, true)), (.p (.val (.tmp 13)))⟩
  (.op ⟨(some 57), (some (53, true)), (.p (.iaddr 2 (.tmp 55) (.tmp 56)))⟩
  (.op ⟨(some 58), (some (53, true)), (.p (.loadi true 2 (.tmp 57)))⟩
  (.op ⟨(some 59), (some (53, true)), (.p (.val (.tmp 0)))⟩
  (.op ⟨(some 60), (some (53, true)), (.p (.val (.tmp 1)))⟩
  (.op ⟨(some 61), (some (53, true)), (.p (.iaddr 2 (.tmp 59) (.tmp 60)))⟩
  (.op ⟨(some 62), (some (53, true)), (.p (.loadi true 2 (.tmp 61)))⟩
  (.op ⟨(some 63), (some (53, true)), (.callv (.tmp 54) [(.tmp 58), (.tmp 62)])⟩
  (.op ⟨(some 64), (some (53, true)), (.p (.bin .lss (.tmp 63) (.con (.int .i64 0))))⟩
  (.op ⟨(some 65), (some (53, true)), (.p (.un .not (.tmp 64)))⟩
  (.op ⟨(some 66), none, (.p (.pick (.tmp 53) (.tmp 65) (.con (.bool false))))⟩
  .done))))))))))))))))))
 (.cond (.tmp 66)
 .skip
 (.exit 2)))
 (.block 3 (.ops [] (.op ⟨(some 67), none, (.p (.val (.tmp 13)))⟩
  (.op ⟨(some 68), none, (.p (.bin .sub (.tmp 67) (.con (.int .i64 1))))⟩
  (.op ⟨(some 13), none, (.p (.val (.tmp 68)))⟩
  .done))))))))
 (.seq (.seq (.ops [] (.op ⟨(some 69), none, (.p (.val (.tmp 12)))⟩
  (.op ⟨(some 70), none, (.p (.val (.tmp 13)))⟩
  (.op ⟨(some 71), none, (.p (.bin .gtr (.tmp 69) (.tmp 70)))⟩
  .done))))
 (.cond (.tmp 71)
 (.seq (.ops [] (.op ⟨(some 72), none, (.p (.val (.tmp 0)))⟩
  (.op ⟨(some 73), none, (.p (.val (.tmp 13)))⟩
  (.op ⟨(some 74), none, (.p (.val (.tmp 0)))⟩
  (.op ⟨(some 75), none, (.p (.val (.tmp 1)))⟩
  (.op ⟨(some 76), none, (.p (.val (.tmp 0)))⟩
  (.op ⟨(some 77), none, (.p (.val (.tmp 1)))⟩
  (.op ⟨(some 78), none, (.p (.iaddr 2 (.tmp 76) (.tmp 77)))⟩
  (.op ⟨(some 79), none, (.p (.loadi true 2 (.tmp 78)))⟩
  (.op ⟨(some 80), none, (.p (.val (.tmp 0)))⟩
  (.op ⟨(some 81), none, (.p (.val (.tmp 13)))⟩
  (.op ⟨(some 82), none, (.p (.iaddr 2 (.tmp 80) (.tmp 81)))⟩
  (.op ⟨(some 83), none, (.p (.loadi true 2 (.tmp 82)))⟩
  (.op ⟨(some 84), none, (.p (.iaddr 2 (.tmp 72) (.tmp 73)))⟩
  (.op ⟨none, none, (.store 2 (.tmp 84) (.tmp 79))⟩
  (.op ⟨(some 85), none, (.p (.iaddr 2 (.tmp 74) (.tmp 75)))⟩
  (.op ⟨none, none, (.store 2 (.tmp 85) (.tmp 83))⟩
  .done)))))))))))))))))
 (.seq (.ops [] (.op ⟨(some 86), none, (.p (.val (.tmp 13)))⟩
  (.op ⟨(some 10), none, (.p (.val (.tmp 86)))⟩
  (.op ⟨(some 11), none, (.p (.val (.con (.bool true))))⟩
  .done))))
 .ret))
 .skip))
 (.seq (.ops [] (.op ⟨(some 87), none, (.p (.val (.tmp 0)))⟩
  (.op ⟨(some 88), none, (.p (.val (.tmp 12)))⟩
  (.op ⟨(some 89), none, (.p (.val (.tmp 0)))⟩
  (.op ⟨(some 90), none, (.p (.val (.tmp 13)))⟩
  (.op ⟨(some 91), none, (.p (.val (.tmp 0)))⟩
  (.op ⟨(some 92), none, (.p (.val (.tmp 13)))⟩
  (.op ⟨(some 93), none, (.p (.iaddr 2 (.tmp 91) (.tmp 92)))⟩
  (.op ⟨(some 94), none, (.p (.loadi true 2 (.tmp 93)))⟩
  (.op ⟨(some 95), none, (.p (.val (.tmp 0)))⟩
  (.op ⟨(some 96), none, (.p (.val (.tmp 12)))⟩
  (.op ⟨(some 97), none, (.p (.iaddr 2 (.tmp 95) (.tmp 96)))⟩
  (.op ⟨(some 98), none, (.p (.loadi true 2 (.tmp 97)))⟩
  (.op ⟨(some 99), none, (.p (.iaddr 2 (.tmp 87) (.tmp 88)))⟩
  (.op ⟨none, none, (.store 2 (.tmp 99) (.tmp 94))⟩
  (.op ⟨(some 100), none, (.p (.iaddr 2 (.tmp 89) (.tmp 90)))⟩
  (.op ⟨none, none, (.store 2 (.tmp 100) (.tmp 98))⟩
  .done)))))))))))))))))
 (.seq (.ops [] (.op ⟨(some 101), none, (.p (.val (.tmp 12)))⟩
  (.op ⟨(some 102), none, (.p (.bin .add (.tmp 101) (.con (.int .i64 1))))⟩
  (.op ⟨(some 12), none, (.p (.val (.tmp 102)))⟩
  .done))))
 (.seq (.ops [] (.op ⟨(some 103), none, (.p (.val (.tmp 13)))⟩
  (.op ⟨(some 104), none, (.p (.bin .sub (.tmp 103) (.con (.int .i64 1))))⟩
  (.op ⟨(some 13), none, (.p (.val (.tmp 104)))⟩
  .done))))
 (.seq (.block 4 (.loop (.block 5 (.seq (.block 6 (.loop (.seq (.seq (.ops [] (.op ⟨(some 105), none, (.p (.val (.tmp 12)))⟩
  (.op ⟨(some 106), none, (.p (.val (.tmp 13)))⟩
  (.op ⟨(some 107), none, (.p (.bin .leq (.tmp 105) (.tmp 106)))⟩
  (.op ⟨(some 108), none, (.p (.val (.tmp 107)))⟩
  (.op ⟨(some 109), (some (108, true)), (.p (.val (.tmp 4)))⟩
  (.op ⟨(some 110), (some (108, true)), (.p (.val (.tmp 0)))⟩
  (.op ⟨(some 111), (some (108, true)), (.p (.val (.tmp 12)))⟩
  (.op ⟨(some 112), (some (108, true)), (.p (.iaddr 2 (.tmp 110) (.tmp 111)))⟩
  (.op ⟨(some 113), (some (108, true)), (.p (.loadi true 2 (.tmp 112)))⟩
  (.op ⟨(some 114), (some (108, true)), (.p (.val (.tmp 0)))⟩
  (.op ⟨(some 115), (some (108, true)), (.p (.val (.tmp 1)))⟩
  (.op ⟨(some 116), (some (108, true)), (.p (.iaddr 2 (.tmp 114) (.tmp 115)))⟩
  (.op ⟨(some 117), (some (108, true)), (.p (.loadi true 2 (.tmp 116)))⟩
  (.op ⟨(some 118), (some (108, true)), (.callv (.tmp 109) [(.tmp 113), (.tmp 117)])⟩
  (.op ⟨(some 119), (some (108, true)), (.p (.bin .lss (.tmp 118) (.con (.int .i64 0))))⟩
  (.op ⟨(some 120), none, (.p (.pick (.tmp 108) (.tmp 119) (.con (.bool false))))⟩
  .done)))))))))))))))))
 (.cond (.tmp 120)
 .skip
 (.exit 6)))
 (.block 7 (.ops [] (.op ⟨(some 121), none, (.p (.val (.tmp 12)))⟩
  (.op ⟨(some 122), none, (.p (.bin .add (.tmp 121) (.con (.int .i64 1))))⟩
  (.op ⟨(some 12), none, (.p (.val (.tmp 122)))⟩
  .done))))))))
 (.seq (.block 8 (.loop (.seq (.seq (.ops [] (.op ⟨(some 123), none, (.p (.val (.tmp 12)))⟩
  (.op ⟨(some 124), none, (.p (.val (.tmp 13)))⟩
  (.op ⟨(some 125), none, (.p (.bin .leq (.tmp 123) (.tmp 124)))⟩
  (.op ⟨(some 126), none, (.p (.val (.tmp 125)))⟩
  (.op ⟨(some 127), (some (126, true)), (.p (.val (.tmp 4)))⟩
  (.op ⟨(some 128), (some (126, true)), (.p (.val (.tmp 0)))⟩
  (.op ⟨(some 129), (some (126, true)), (.p (.val (.tmp 13)))⟩
  (.op ⟨(some 130), (some (126, true)), (.p (.iaddr 2 (.tmp 128) (.tmp 129)))⟩
  (.op ⟨(some 131), (some (126, true)), (.p (.loadi true 2 (.tmp 130)))⟩
  (.op ⟨(some 132), (some (126, true)), (.p (.val (.tmp 0)))⟩
  (.op ⟨(some 133), (some (126, true)), (.p (.val (.tmp 1)))⟩
  (.op ⟨(some 134), (some (126, true)), (.p (.iaddr 2 (.tmp 132) (.tmp 133)))⟩
  (.op ⟨(some 135), (some (126, true)), (.p (.loadi true 2 (.tmp 134)))⟩
  (.op ⟨(some 136), (some (126, true)), (.callv (.tmp 127) [(.tmp 131), (.tmp 135)])⟩
  (.op ⟨(some 137), (some (126, true)), (.p (.bin .lss (.tmp 136) (.con (.int .i64 0))))⟩
  (.op ⟨(some 138), (some (126, true)), (.p (.un .not (.tmp 137)))⟩
  (.op ⟨(some 139), none, (.p (.pick (.tmp 126) (.tmp 138) (.con (.bool false))))⟩
  .done))))))))))))))))))
 (.cond (.tmp 139)
 .skip
 (.exit 8)))
 (.block 9 (.ops [] (.op ⟨(some 140), none, (.p (.val (.tmp 13)))⟩
  (.op ⟨(some 141), none, (.p (.bin .sub (.tmp 140) (.con (.int .i64 1))))⟩
  (.op ⟨(some 13), none, (.p (.val (.tmp 141)))⟩
  .done))))))))
 (.seq (.seq (.ops [] (.op ⟨(some 142), none, (.p (.val (.tmp 12)))⟩
  (.op ⟨(some 143), none, (.p (.val (.tmp 13)))⟩
  (.op ⟨(some 144), none, (.p (.bin .gtr (.tmp 142) (.tmp 143)))⟩
  .done))))
 (.cond (.tmp 144)
 (.exit 4)
 .skip))
 (.seq (.ops [] (.op ⟨(some 145), none, (.p (.val (.tmp 0)))⟩
  (.op ⟨(some 146), none, (.p (.val (.tmp 12)))⟩
  (.op ⟨(some 147), none, (.p (.val (.tmp 0)))⟩
  (.op ⟨(some 148), none, (.p (.val (.tmp 13)))⟩
  (.op ⟨(some 149), none, (.p (.val (.tmp 0)))⟩
  (.op ⟨(some 150), none, (.p (.val (.tmp 13)))⟩
  (.op ⟨(some 151), none, (.p (.iaddr 2 (.tmp 149) (.tmp 150)))⟩
  (.op ⟨(some 152), none, (.p (.loadi true 2 (.tmp 151)))⟩
  (.op ⟨(some 153), none, (.p (.val (.tmp 0)))⟩
  (.op ⟨(some 154), none, (.p (.val (.tmp 12)))⟩
  (.op ⟨(some 155), none, (.p (.iaddr 2 (.tmp 153) (.tmp 154)))⟩
  (.op ⟨(some 156), none, (.p (.loadi true 2 (.tmp 155)))⟩
  (.op ⟨(some 157), none, (.p (.iaddr 2 (.tmp 145) (.tmp 146)))⟩
  (.op ⟨none, none, (.store 2 (.tmp 157) (.tmp 152))⟩
  (.op ⟨(some 158), none, (.p (.iaddr 2 (.tmp 147) (.tmp 148)))⟩
  (.op ⟨none, none, (.store 2 (.tmp 158) (.tmp 156))⟩
  .done)))))))))))))))))
 (.seq (.ops [] (.op ⟨(some 159), none, (.p (.val (.tmp 12)))⟩
  (.op ⟨(some 160), none, (.p (.bin .add (.tmp 159) (.con (.int .i64 1))))⟩
  (.op ⟨(some 12), none, (.p (.val (.tmp 160)))⟩
  .done))))
 (.ops [] (.op ⟨(some 161), none, (.p (.val (.tmp 13)))⟩
  (.op ⟨(some 162), none, (.p (.bin .sub (.tmp 161) (.con (.int .i64 1))))⟩
  (.op ⟨(some 13), none, (.p (.val (.tmp 162)))⟩
  .done))))))))))))
 (.seq (.ops [] (.op ⟨(some 163), none, (.p (.val (.tmp 0)))⟩
  (.op ⟨(some 164), none, (.p (.val (.tmp 13)))⟩
  (.op ⟨(some 165), none, (.p (.val (.tmp 0)))⟩
  (.op ⟨(some 166), none, (.p (.val (.tmp 1)))⟩
  (.op ⟨(some 167), none, (.p (.val (.tmp 0)))⟩
  (.op ⟨(some 168), none, (.p (.val (.tmp 1)))⟩
  (.op ⟨(some 169), none, (.p (.iaddr 2 (.tmp 167) (.tmp 168)))⟩
  (.op ⟨(some 170), none, (.p (.loadi true 2 (.tmp 169)))⟩
  (.op ⟨(some 171), none, (.p (.val (.tmp 0)))⟩
  (.op ⟨(some 172), none, (.p (.val (.tmp 13)))⟩
  (.op ⟨(some 173), none, (.p (.iaddr 2 (.tmp 171) (.tmp 172)))⟩
  (.op ⟨(some 174), none, (.p (.loadi true 2 (.tmp 173)))⟩
  (.op ⟨(some 175), none, (.p (.iaddr 2 (.tmp 163) (.tmp 164)))⟩
  (.op ⟨none, none, (.store 2 (.tmp 175) (.tmp 170))⟩
  (.op ⟨(some 176), none, (.p (.iaddr 2 (.tmp 165) (.tmp 166)))⟩
  (.op ⟨none, none, (.store 2 (.tmp 176) (.tmp 174))⟩
  .done)))))))))))))))))
 (.seq (.ops [] (.op ⟨(some 177), none, (.p (.val (.tmp 13)))⟩
  (.op ⟨(some 10), none, (.p (.val (.tmp 177)))⟩
  (.op ⟨(some 11), none, (.p (.val (.con (.bool false))))⟩
  .done))))
 .ret))))))))))))⟩
theorem i79_is : compFunc Tryd.prog ⟨[], [], [20, 24, 26, 27, 39, 43, 57, 61, 78, 82, 84, 85, 93, 97, 99, 100, 112, 116, 130, 134, 151, 155, 157, 158, 169, 173, 175, 176]⟩ [] 79 = some i79 := by kernel_rfl

/-- math/bits.Len32 -/
def i80 : IFn := ⟨1, 19, [.tmp 2],
 (.seq (.ops [] (.op ⟨(some 2), none, (.p (.val (.con (.int .i64 0))))⟩
  .done))
 (.seq (.seq (.ops [] (.op ⟨(some 3), none, (.p (.val (.tmp 0)))⟩
  (.op ⟨(some 4), none, (.p (.bin .geq (.tmp 3) (.con (.int .u32 65536))))⟩
  .done)))
 (.cond (.tmp 4)
 (.seq (.ops [] (.op ⟨(some 5), none, (.p (.val (.tmp 0)))⟩
  (.op ⟨(some 6), none, (.p (.bin .shr (.tmp 5) (.con (.int .u64 16))))⟩
  (.op ⟨(some 0), none, (.p (.val (.tmp 6)))⟩
  .done))))
 (.ops [] (.op ⟨(some 2), none, (.p (.val (.con (.int .i64 16))))⟩
  .done)))
 .skip))
 (.seq (.seq (.ops [] (.op ⟨(some 7), none, (.p (.val (.tmp 0)))⟩
  (.op ⟨(some 8), none, (.p (.bin .geq (.tmp 7) (.con (.int .u32 256))))⟩
  .done)))
 (.cond (.tmp 8)
 (.seq (.ops [] (.op ⟨(some 9), none, (.p (.val (.tmp 0)))⟩
  (.op ⟨(some 10), none, (.p (.bin .shr (.tmp 9) (.con (.int .u64 8))))⟩
  (.op ⟨(some 0), none, (.p (.val (.tmp 10)))⟩
  .done))))
 (.ops [] (.op ⟨(some 11), none, (.p (.val (.tmp 2)))⟩
  (.op ⟨(some 12), none, (.p (.bin .add (.tmp 11) (.con (.int .i64 8))))⟩
  (.op ⟨(some 2), none, (.p (.val (.tmp 12)))⟩
  .done)))))
 .skip))
 (.seq (.ops [] (.op ⟨(some 13), none, (.p (.val (.tmp 2)))⟩
  (.op ⟨(some 14), none, (.p (.val (.tmp 0)))⟩
  (.op ⟨(some 15), none, (.p (.cvi .u8 (.tmp 14)))⟩
  (.op ⟨(some 16), none, (.p (.idxs (.con (.str [0, 1, 2, 2, 3, 3, 3, 3, 4, 4, 4, 4, 4, 4, 4, 4, 5, 5, 5, 5, 5, 5, 5, 5, 5, 5, 5, 5, 5, 5, 5, 5, 6, 6, 6, 6, 6, 6, 6, 6, 6, 6, 6, 6, 6, 6, 6, 6, 6, 6, 6, 6, 6, 6, 6, 6, 6, 6, 6, 6, 6, 6, 6, 6, 7, 7, 7, 7, 7, 7, 7, 7, 7, 7, 7, 7, 7, 7, 7, 7, 7, 7, 7, 7, 7, 7, 7, 7, 7, 7, 7, 7, 7, 7, 7, 7, 7, 7, 7, 7, 7, 7, 7, 7, 7, 7, 7, 7, 7, 7, 7, 7, 7, 7, 7, 7, 7, 7, 7, 7, 7, 7, 7, 7, 7, 7, 7, 7, 8, 8, 8, 8, 8, 8, 8, 8, 8, 8, 8, 8, 8, 8, 8, 8, 8, 8, 8, 8, 8, 8, 8, 8, 8, 8, 8, 8, 8, 8, 8, 8, 8, 8, 8, 8, 8, 8, 8, 8, 8, 8, 8, 8, 8, 8, 8, 8, 8, 8, 8, 8, 8, 8, 8, 8, 8, 8, 8, 8, 8, 8, 8, 8, 8, 8, 8, 8, 8, 8, 8, 8, 8, 8, 8, 8, 8, 8, 8, 8, 8, 8, 8, 8, 8, 8, 8, 8, 8, 8, 8, 8, 8, 8, 8, 8, 8, 8, 8, 8, 8, 8, 8, 8, 8, 8, 8, 8, 8, 8, 8, 8, 8, 8, 8, 8, 8, 8, 8, 8, 8, 8, 8, 8, 8, 8, 8, 8])) (.tmp 15)))⟩
  (.op ⟨(some 17), none, (.p (.cvi .i64 (.tmp 16)))⟩
  (.op ⟨(some 18), none, (.p (.bin .add (.tmp 13) (.tmp 17)))⟩
  (.op ⟨(some 2), none, (.p (.val (.tmp 18)))⟩
  .done))))))))
 .ret))))⟩
theorem i80_is : compFunc Tryd.prog ⟨[], [], []⟩ [] 80 = some i80 := by kernel_rfl

/-- math/bits.Len64 -/
def i81 : IFn := ⟨1, 25, [.tmp 2],
 (.seq (.ops [] (.op ⟨(some 2), none, (.p (.val (.con (.int .i64 0))))⟩
  .done))
 (.seq (.seq (.ops [] (.op ⟨(some 3), none, (.p (.val (.tmp 0)))⟩
  (.op ⟨(some 4), none, (.p (.bin .geq (.tmp 3) (.con (.int .u64 4294967296))))⟩
  .done)))
 (.cond (.tmp 4)
 (.seq (.ops [] (.op ⟨(some 5), none, (.p (.val (.tmp 0)))⟩
  (.op ⟨(some 6), none, (.p (.bin .shr (.tmp 5) (.con (.int .u64 32))))⟩
  (.op ⟨(some 0), none, (.p (.val (.tmp 6)))⟩
  .done))))
 (.ops [] (.op ⟨(some 2), none, (.p (.val (.con (.int .i64 32))))⟩
  .done)))
 .skip))
 (.seq (.seq (.ops [] (.op ⟨(some 7), none, (.p (.val (.tmp 0)))⟩
  (.op ⟨(some 8), none, (.p (.bin .geq (.tmp 7) (.con (.int .u64 65536))))⟩
  .done)))
 (.cond (.tmp 8)
 (.seq (.ops [] (.op ⟨(some 9), none, (.p (.val (.tmp 0)))⟩
  (.op ⟨(some 10), none, (.p (.bin .shr (.tmp 9) (.con (.int .u64 16))))⟩
  (.op ⟨(some 0), none, (.p (.val (.tmp 10)))⟩
  .done))))
 (.ops [] (.op ⟨(some 11), none, (.p (.val (.tmp 2)))⟩
  (.op ⟨(some 12), none, (.p (.bin .add (.tmp 11) (.con (.int .i64 16))))⟩
  (.op ⟨(some 2), none, (.p (.val (.tmp 12)))⟩
  .done)))))
 .skip))
 (.seq (.seq (.ops [] (.op ⟨(some 13), none, (.p (.val (.tmp 0)))⟩
  (.op ⟨(some 14), none, (.p (.bin .geq (.tmp 13) (.con (.int .u64 256))))⟩
  .done)))
 (.cond (.tmp 14)
 (.seq (.ops [] (.op ⟨(some 15), none, (.p (.val (.tmp 0)))⟩
  (.op ⟨(some 16), none, (.p (.bin .shr (.tmp 15) (.con (.int .u64 8))))⟩
  (.op ⟨(some 0), none, (.p (.val (.tmp 16)))⟩
  .done))))
 (.ops [] (.op ⟨(some 17), none, (.p (.val (.tmp 2)))⟩
  (.op ⟨(some 18), none, (.p (.bin .add (.tmp 17) (.con (.int .i64 8))))⟩
  (.op ⟨(some 2), none, (.p (.val (.tmp 18)))⟩
  .done)))))
 .skip))
 (.seq (.ops [] (.op ⟨(some 19), none, (.p (.val (.tmp 2)))⟩
  (.op ⟨(some 20), none, (.p (.val (.tmp 0)))⟩
  (.op ⟨(some 21), none, (.p (.cvi .u8 (.tmp 20)))⟩
  (.op ⟨(some 22), none, (.p (.idxs (.con (.str [0, 1, 2, 2, 3, 3, 3, 3, 4, 4, 4, 4, 4, 4, 4, 4, 5, 5, 5, 5, 5, 5, 5, 5, 5, 5, 5, 5, 5, 5, 5, 5, 6, 6, 6, 6, 6, 6, 6, 6, 6, 6, 6, 6, 6, 6, 6, 6, 6, 6, 6, 6, 6, 6, 6, 6, 6, 6, 6, 6, 6, 6, 6, 6, 7, 7, 7, 7, 7, 7, 7, 7, 7, 7, 7, 7, 7, 7, 7, 7, 7, 7, 7, 7, 7, 7, 7, 7, 7, 7, 7, 7, 7, 7, 7, 7, 7, 7, 7, 7, 7, 7, 7, 7, 7, 7, 7, 7, 7, 7, 7, 7, 7, 7, 7, 7, 7, 7, 7, 7, 7, 7, 7, 7, 7, 7, 7, 7, 8, 8, 8, 8, 8, 8, 8, 8, 8, 8, 8, 8, 8, 8, 8, 8, 8, 8, 8, 8, 8, 8, 8, 8, 8, 8, 8, 8, 8, 8, 8, 8, 8, 8, 8, 8, 8, 8, 8, 8, 8, 8, 8, 8, 8, 8, 8, 8, 8, 8, 8, 8, 8, 8, 8, 8, 8, 8, 8, 8, 8, 8, 8, 8, 8, 8, 8, 8, 8, 8, 8, 8, 8, 8, 8, 8, 8, 8, 8, 8, 8, 8, 8, 8, 8, 8, 8, 8, 8, 8, 8, 8, 8, 8, 8, 8, 8, 8, 8, 8, 8, 8, 8, 8, 8, 8, 8, 8, 8, 8, 8, 8, 8, 8, 8, 8, 8, 8, 8, 8, 8, 8, 8, 8, 8, 8, 8, 8])) (.tmp 21)))⟩
  (.op ⟨(some 23), none, (.p (.cvi .i64 (.tmp 22)))⟩
  (.op ⟨(some 24), none, (.p (.bin .add (.tmp 19) (.tmp 23)))⟩
  (.op ⟨(some 2), none, (.p (.val (.tmp 24)))⟩
  .done))))))))
 .ret)))))⟩
theorem i81_is : compFunc Tryd.prog ⟨[], [], []⟩ [] 81 = some i81 := by kernel_rfl

/-- unicode/utf8.word[string] -/
def i82 : IFn := ⟨1, 59, [.tmp 2],
 (.seq (.ops [] (.op ⟨(some 2), none, (.p (.val (.con (.int .u64 0))))⟩
  .done))
 (.seq (.cond (.con (.bool false))
 (.seq (.ops [] (.op ⟨(some 3), none, (.p (.val (.tmp 0)))⟩
  (.op ⟨(some 4), none, (.p (.idxs (.tmp 3) (.con (.int .i64 0))))⟩
  (.op ⟨(some 5), none, (.p (.cvi .u64 (.tmp 4)))⟩
  (.op ⟨(some 6), none, (.p (.val (.tmp 0)))⟩
  (.op ⟨(some 7), none, (.p (.idxs (.tmp 6) (.con (.int .i64 1))))⟩
  (.op ⟨(some 8), none, (.p (.cvi .u64 (.tmp 7)))⟩
  (.op ⟨(some 9), none, (.p (.bin .shl (.tmp 8) (.con (.int .u64 8))))⟩
  (.op ⟨(some 10), none, (.p (.bin .or (.tmp 5) (.tmp 9)))⟩
  (.op ⟨(some 11), none, (.p (.val (.tmp 0)))⟩
  (.op ⟨(some 12), none, (.p (.idxs (.tmp 11) (.con (.int .i64 2))))⟩
  (.op ⟨(some 13), none, (.p (.cvi .u64 (.tmp 12)))⟩
  (.op ⟨(some 14), none, (.p (.bin .shl (.tmp 13) (.con (.int .u64 16))))⟩
  (.op ⟨(some 15), none, (.p (.bin .or (.tmp 10) (.tmp 14)))⟩
  (.op ⟨(some 16), none, (.p (.val (.tmp 0)))⟩
  (.op ⟨(some 17), none, (.p (.idxs (.tmp 16) (.con (.int .i64 3))))⟩
  (.op ⟨(some 18), none, (.p (.cvi .u64 (.tmp 17)))⟩
  (.op ⟨(some 19), none, (.p (.bin .shl (.tmp 18) (.con (.int .u64 24))))⟩
  (.op ⟨(some 20), none, (.p (.bin .or (.tmp 15) (.tmp 19)))⟩
  (.op ⟨(some 2), none, (.p (.val (.tmp 20)))⟩
  .done))))))))))))))))))))
 .ret)
 .skip)
 (.seq (.ops [] (.op ⟨(some 21), none, (.p (.val (.tmp 0)))⟩
  (.op ⟨(some 22), none, (.p (.idxs (.tmp 21) (.con (.int .i64 0))))⟩
  (.op ⟨(some 23), none, (.p (.cvi .u64 (.tmp 22)))⟩
  (.op ⟨(some 24), none, (.p (.val (.tmp 0)))⟩
  (.op ⟨(some 25), none, (.p (.idxs (.tmp 24) (.con (.int .i64 1))))⟩
  (.op ⟨(some 26), none, (.p (.cvi .u64 (.tmp 25)))⟩
  (.op ⟨(some 27), none, (.p (.bin .shl (.tmp 26) (.con (.int .u64 8))))⟩
  (.op ⟨(some 28), none, (.p (.bin .or (.tmp 23) (.tmp 27)))⟩
  (.op ⟨(some 29), none, (.p (.val (.tmp 0)))⟩
  (.op ⟨(some 30), none, (.p (.idxs (.tmp 29) (.con (.int .i64 2))))⟩
  (.op ⟨(some 31), none, (.p (.cvi .u64 (.tmp 30)))⟩
  (.op ⟨(some 32), none, (.p (.bin .shl (.tmp 31) (.con (.int .u64 16))))⟩
  (.op ⟨(some 33), none, (.p (.bin .or (.tmp 28) (.tmp 32)))⟩
  (.op ⟨(some 34), none, (.p (.val (.tmp 0)))⟩
  (.op ⟨(some 35), none, (.p (.idxs (.tmp 34) (.con (.int .i64 3))))⟩
  (.op ⟨(some 36), none, (.p (.cvi .u64 (.tmp 35)))⟩
  (.op ⟨(some 37), none, (.p (.bin .shl (.tmp 36) (.con (.int .u64 24))))⟩
  (.op ⟨(some 38), none, (.p (.bin .or (.tmp 33) (.tmp 37)))⟩
  (.op ⟨(some 39), none, (.p (.val (.tmp 0)))⟩
  (.op ⟨(some 40), none, (.p (.idxs (.tmp 39) (.con (.int .i64 4))))⟩
  (.op ⟨(some 41), none, (.p (.cvi .u64 (.tmp 40)))⟩
  (.op ⟨(some 42), none, (.p (.bin .shl (.tmp 41) (.con (.int .u64 32))))⟩
  (.op ⟨(some 43), none, (.p (.bin .or (.tmp 38) (.tmp 42)))⟩
  (.op ⟨(some 44), none, (.p (.val (.tmp 0)))⟩
  (.op ⟨(some 45), none, (.p (.idxs (.tmp 44) (.con (.int .i64 5))))⟩
  (.op ⟨(some 46), none, (.p (.cvi .u64 (.tmp 45)))⟩
  (.op ⟨(some 47), none, (.p (.bin .shl (.tmp 46) (.con (.int .u64 40))))⟩
  (.op ⟨(some 48), none, (.p (.bin .or (.tmp 43) (.tmp 47)))⟩
  (.op ⟨(some 49), none, (.p (.val (.tmp 0)))⟩
  (.op ⟨(some 50), none, (.p (.idxs (.tmp 49) (.con (.int .i64 6))))⟩
  (.op ⟨(some 51), none, (.p (.cvi .u64 (.tmp 50)))⟩
  (.op ⟨(some 52), none, (.p (.bin .shl (.tmp 51) (.con (.int .u64 48))))⟩
  (.op ⟨(some 53), none, (.p (.bin .or (.tmp 48) (.tmp 52)))⟩
  (.op ⟨(some 54), none, (.p (.val (.tmp 0)))⟩
  (.op ⟨(some 55), none, (.p (.idxs (.tmp 54) (.con (.int .i64 7))))⟩
  (.op ⟨(some 56), none, (.p (.cvi .u64 (.tmp 55)))⟩
  (.op ⟨(some 57), none, (.p (.bin .shl (.tmp 56) (.con (.int .u64 56))))⟩
  (.op ⟨(some 58), none, (.p (.bin .or (.tmp 53) (.tmp 57)))⟩
  (.op ⟨(some 2), none, (.p (.val (.tmp 58)))⟩
  .done))))))))))))))))))))))))))))))))))))))))
 .ret)))⟩
theorem i82_is : compFunc Tryd.prog ⟨[], [], []⟩ [] 82 = some i82 := by kernel_rfl

/-- slices.BinarySearchFunc[[]baton/api.Sample,baton/api.Sample,int64] -/
def i83 : IFn := ⟨3, 49, [.tmp 6, .tmp 7],
 (.seq (.ops [] (.op ⟨(some 6), none, (.p (.val (.con (.int .i64 0))))⟩
  (.op ⟨(some 7), none, (.p (.val (.con (.bool false))))⟩
  .done)))
 (.seq (.ops [] (.op ⟨(some 12), none, (.p (.val (.tmp 0)))⟩
  (.op ⟨(some 13), none, (.p (.lenl (.tmp 12)))⟩
  (.op ⟨(some 8), none, (.p (.val (.tmp 13)))⟩
  .done))))
 (.seq (.ops [] (.op ⟨(some 14), none, (.p (.val (.tmp 8)))⟩
  (.op ⟨(some 9), none, (.p (.val (.con (.int .i64 0))))⟩
  (.op ⟨(some 10), none, (.p (.val (.tmp 14)))⟩
  .done))))
 (.seq (.block 0 (.loop (.seq (.seq (.ops [] (.op ⟨(some 15), none, (.p (.val (.tmp 9)))⟩
  (.op ⟨(some 16), none, (.p (.val (.tmp 10)))⟩
  (.op ⟨(some 17), none, (.p (.bin .lss (.tmp 15) (.tmp 16)))⟩
  .done))))
 (.cond (.tmp 17)
 .skip
 (.exit 0)))
 (.block 1 (.seq (.ops [] (.op ⟨(some 18), none, (.p (.val (.tmp 9)))⟩
  (.op ⟨(some 19), none, (.p (.val (.tmp 10)))⟩
  (.op ⟨(some 20), none, (.p (.bin .add (.tmp 18) (.tmp 19)))⟩
  (.op ⟨(some 21), none, (.p (.cvi .u64 (.tmp 20)))⟩
  (.op ⟨(some 22), none, (.p (.bin .shr (.tmp 21) (.con (.int .u64 1))))⟩
  (.op ⟨(some 23), none, (.p (.cvi .i64 (.tmp 22)))⟩
  (.op ⟨(some 11), none, (.p (.val (.tmp 23)))⟩
  .done))))))))
 (.seq (.ops [] (.op ⟨(some 24), none, (.p (.val (.tmp 2)))⟩
  (.op ⟨(some 25), none, (.p (.val (.tmp 0)))⟩
  (.op ⟨(some 26), none, (.p (.val (.tmp 11)))⟩
  (.op ⟨(some 27), none, (.p (.iaddr 2 (.tmp 25) (.tmp 26)))⟩
  (.op ⟨(some 28), none, (.p (.loadi true 2 (.tmp 27)))⟩
  (.op ⟨(some 29), none, (.p (.val (.tmp 1)))⟩
  (.op ⟨(some 30), none, (.callv (.tmp 24) [(.tmp 28), (.tmp 29)])⟩
  (.op ⟨(some 31), none, (.p (.bin .lss (.tmp 30) (.con (.int .i64 0))))⟩
  .done)))))))))
 (.cond (.tmp 31)
 (.ops [] (.op ⟨(some 32), none, (.p (.val (.tmp 11)))⟩
  (.op ⟨(some 33), none, (.p (.bin .add (.tmp 32) (.con (.int .i64 1))))⟩
  (.op ⟨(some 9), none, (.p (.val (.tmp 33)))⟩
  .done))))
 (.ops [] (.op ⟨(some 34), none, (.p (.val (.tmp 11)))⟩
  (.op ⟨(some 10), none, (.p (.val (.tmp 34)))⟩
  .done))))))))))
 (.seq (.ops [] (.op ⟨(some 35), none, (.p (.val (.tmp 9)))⟩
  (.op ⟨(some 36), none, (.p (.val (.tmp 9)))⟩
  (.op ⟨(some 37), none, (.p (.val (.tmp 8)))⟩
  (.op ⟨(some 38), none, (.p (.bin .lss (.tmp 36) (.tmp 37)))⟩
  (.op ⟨(some 39), none, (.p (.val (.tmp 38)))⟩
  (.op ⟨(some 40), (some (39, true)), (.p (.val (.tmp 2)))⟩
  (.op ⟨(some 41), (some (39, true)), (.p (.val (.tmp 0)))⟩
  (.op ⟨(some 42), (some (39, true)), (.p (.val (.tmp 9)))⟩
  (.op ⟨(some 43), (some (39, true)), (.p (.iaddr 2 (.tmp 41) (.tmp 42)))⟩
  (.op ⟨(some 44), (some (39, true)), (.p (.loadi true 2 (.tmp 43)))⟩
  (.op ⟨(some 45), (some (39, true)), (.p (.val (.tmp 1)))⟩
  (.op ⟨(some 46), (some (39, true)), (.callv (.tmp 40) [(.tmp 44), (.tmp 45)])⟩
  (.op ⟨(some 47), (some (39, true)), (.p (.bin .eql (.tmp 46) (.con (.int .i64 0))))⟩
  (.op ⟨(some 48), none, (.p (.pick (.tmp 39) (.tmp 47) (.con (.bool false))))⟩
  (.op ⟨(some 6), none, (.p (.val (.tmp 35)))⟩
  (.op ⟨(some 7), none, (.p (.val (.tmp 48)))⟩
  .done)))))))))))))))))
 .ret)))))⟩
theorem i83_is : compFunc Tryd.prog ⟨[], [], [27, 43]⟩ [] 83 = some i83 := by kernel_rfl

/-- baton/series.place$1 -/
def i84 : IFn := ⟨2, 9, [.tmp 4],
 (.seq (.ops [] (.op ⟨(some 2), none, (.p (.boxi (.tmp 0)))⟩
  (.op ⟨(some 4), none, (.p (.val (.con (.int .i64 0))))⟩
  .done)))
 (.seq (.ops [] (.op ⟨(some 5), none, (.p (.faddr 0 (.tmp 2)))⟩
  (.op ⟨(some 6), none, (.p (.loadi false 1 (.tmp 5)))⟩
  (.op ⟨(some 7), none, (.p (.val (.tmp 1)))⟩
  (.op ⟨(some 8), none, (.call 85 [(.tmp 6), (.tmp 7)])⟩
  (.op ⟨(some 4), none, (.p (.val (.tmp 8)))⟩
  .done))))))
 .ret))⟩
theorem i84_is : compFunc Tryd.prog ⟨[], [2], [2, 5]⟩ [] 84 = some i84 := by kernel_rfl

/-- cmp.Compare[int64] -/
def i85 : IFn := ⟨2, 20, [.tmp 4],
 (.seq (.ops [] (.op ⟨(some 4), none, (.p (.val (.con (.int .i64 0))))⟩
  .done))
 (.seq (.ops [] (.op ⟨(some 7), none, (.p (.val (.tmp 0)))⟩
  (.op ⟨(some 8), none, (.call 91 [(.tmp 7)])⟩
  (.op ⟨(some 5), none, (.p (.val (.tmp 8)))⟩
  .done))))
 (.seq (.ops [] (.op ⟨(some 9), none, (.p (.val (.tmp 1)))⟩
  (.op ⟨(some 10), none, (.call 91 [(.tmp 9)])⟩
  (.op ⟨(some 6), none, (.p (.val (.tmp 10)))⟩
  .done))))
 (.seq (.seq (.ops [] (.op ⟨(some 11), none, (.p (.val (.tmp 5)))⟩
  .done))
 (.cond (.tmp 11)
 (.seq (.seq (.ops [] (.op ⟨(some 12), none, (.p (.val (.tmp 6)))⟩
  .done))
 (.cond (.tmp 12)
 (.seq (.ops [] (.op ⟨(some 4), none, (.p (.val (.con (.int .i64 0))))⟩
  .done))
 .ret)
 .skip))
 (.seq (.ops [] (.op ⟨(some 4), none, (.p (.val (.con (.int .i64 (-1)))))⟩
  .done))
 .ret))
 .skip))
 (.seq (.seq (.ops [] (.op ⟨(some 13), none, (.p (.val (.tmp 6)))⟩
  .done))
 (.cond (.tmp 13)
 (.seq (.ops [] (.op ⟨(some 4), none, (.p (.val (.con (.int .i64 1))))⟩
  .done))
 .ret)
 .skip))
 (.seq (.seq (.ops [] (.op ⟨(some 14), none, (.p (.val (.tmp 0)))⟩
  (.op ⟨(some 15), none, (.p (.val (.tmp 1)))⟩
  (.op ⟨(some 16), none, (.p (.bin .lss (.tmp 14) (.tmp 15)))⟩
  .done))))
 (.cond (.tmp 16)
 (.seq (.ops [] (.op ⟨(some 4), none, (.p (.val (.con (.int .i64 (-1)))))⟩
  .done))
 .ret)
 .skip))
 (.seq (.seq (.ops [] (.op ⟨(some 17), none, (.p (.val (.tmp 0)))⟩
  (.op ⟨(some 18), none, (.p (.val (.tmp 1)))⟩
  (.op ⟨(some 19), none, (.p (.bin .gtr (.tmp 17) (.tmp 18)))⟩
  .done))))
 (.cond (.tmp 19)
 (.seq (.ops [] (.op ⟨(some 4), none, (.p (.val (.con (.int .i64 1))))⟩
  .done))
 .ret)
 .skip))
 (.seq (.ops [] (.op ⟨(some 4), none, (.p (.val (.con (.int .i64 0))))⟩
  .done))
 .ret))))))))⟩
theorem i85_is : compFunc Tryd.prog ⟨[], [], []⟩ [] 85 = some i85 := by kernel_rfl

/-- slices.siftDownCmpFunc[baton/fence.place] -/
def i86 : IFn := ⟨5, 82, [],
 (.seq (.ops [] (.op ⟨(some 12), none, (.p (.val (.tmp 1)))⟩
  (.op ⟨(some 10), none, (.p (.val (.tmp 12)))⟩
  .done)))
 (.block 0 (.loop (.block 1 (.seq (.ops [] (.op ⟨(some 13), none, (.p (.val (.tmp 10)))⟩
  (.op ⟨(some 14), none, (.p (.bin .mul (.con (.int .i64 2)) (.tmp 13)))⟩
  (.op ⟨(some 15), none, (.p (.bin .add (.tmp 14) (.con (.int .i64 1))))⟩
  (.op ⟨(some 11), none, (.p (.val (.tmp 15)))⟩
  .done)))))
 (.seq (.seq (.ops [] (.op ⟨(some 16), none, (.p (.val (.tmp 11)))⟩
  (.op ⟨(some 17), none, (.p (.val (.tmp 2)))⟩
  (.op ⟨(some 18), none, (.p (.bin .geq (.tmp 16) (.tmp 17)))⟩
  .done))))
 (.cond (.tmp 18)
 (.exit 0)
 .skip))
 (.seq (.seq (.ops [] (.op ⟨(some 19), none, (.p (.val (.tmp 11)))⟩
  (.op ⟨(some 20), none, (.p (.bin .add (.tmp 19) (.con (.int .i64 1))))⟩
  (.op ⟨(some 21), none, (.p (.val (.tmp 2)))⟩
  (.op ⟨(some 22), none, (.p (.bin .lss (.tmp 20) (.tmp 21)))⟩
  (.op ⟨(some 23), none, (.p (.val (.tmp 22)))⟩
  (.op ⟨(some 24), (some (23, true)), (.p (.val (.tmp 4)))⟩
  (.op ⟨(some 25), (some (23, true)), (.p (.val (.tmp 0)))⟩
  (.op ⟨(some 26), (some (23, true)), (.p (.val (.tmp 3)))⟩
  (.op ⟨(some 27), (some (23, true)), (.p (.val (.tmp 11)))⟩
  (.op ⟨(some 28), (some (23, true)), (.p (.bin .add (.tmp 26) (.tmp 27)))⟩
  (.op ⟨(some 29), (some (23, true)), (.p (.iaddr 2 (.tmp 25) (.tmp 28)))⟩
  (.op ⟨(some 30), (some (23, true)), (.p (.loadi true 2 (.tmp 29)))⟩
  (.op ⟨(some 31), (some (23, true)), (.p (.val (.tmp 0)))⟩
  (.op ⟨(some 32), (some (23, true)), (.p (.val (.tmp 3)))⟩
  (.op ⟨(some 33), (some (23, true)), (.p (.val (.tmp 11)))⟩
  (.op ⟨(some 34), (some (23, true)), (.p (.bin .add (.tmp 32) (.tmp 33)))⟩
  (.op ⟨(some 35), (some (23, true)), (.p (.bin .add (.tmp 34) (.con (.int .i64 1))))⟩
  (.op ⟨(some 36), (some (23, true)), (.p (.iaddr 2 (.tmp 31) (.tmp 35)))⟩
  (.op ⟨(some 37), (some (23, true)), (.p (.loadi true 2 (.tmp 36)))⟩
  (.op ⟨(some 38), (some (23, true)), (.callv (.tmp 24) [(.tmp 30), (.tmp 37)])⟩
  (.op ⟨(some 39), (some (23, true)), (.p (.bin .lss (.tmp 38) (.con (.int .i64 0))))⟩
  (.op ⟨(some 40), none, (.p (.pick (.tmp 23) (.tmp 39) (.con (.bool false))))⟩
  .done)))))))))))))))))))))))
 (.cond (.tmp 40)
 (.ops [] (.op ⟨(some 41), none, (.p (.val (.tmp 11)))⟩
  (.op ⟨(some 42), none, (.p (.bin .add (.tmp 41) (.con (.int .i64 1))))⟩
  (.op ⟨(some 11), none, (.p (.val (.tmp 42)))⟩
  .done))))
 .skip))
 (.seq (.seq (.ops [] (.op ⟨(some 43), none, (.p (.val (.tmp 4)))⟩
  (.op ⟨(some 44), none, (.p (.val (.tmp 0)))⟩
  (.op ⟨(some 45), none, (.p (.val (.tmp 3)))⟩
  (.op ⟨(some 46), none, (.p (.val (.tmp 10)))⟩
  (.op ⟨(some 47), none, (.p (.bin .add (.tmp 45) (.tmp 46)))⟩
  (.op ⟨(some 48), none, (.p (.iaddr 2 (.tmp 44) (.tmp 47)))⟩
  (.op ⟨(some 49), none, (.p (.loadi true 2 (.tmp 48)))⟩
  (.op ⟨(some 50), none, (.p (.val (.tmp 0)))⟩
  (.op ⟨(some 51), none, (.p (.val (.tmp 3)))⟩
  (.op ⟨(some 52), none, (.p (.val (.tmp 11)))⟩
  (.op ⟨(some 53), none, (.p (.bin .add (.tmp 51) (.tmp 52)))⟩
  (.op ⟨(some 54), none, (.p (.iaddr 2 (.tmp 50) (.tmp 53)))⟩
  (.op ⟨(some 55), none, (.p (.loadi true 2 (.tmp 54)))⟩
  (.op ⟨(some 56), none, (.callv (.tmp 43) [(.tmp 49), (.tmp 55)])⟩
  (.op ⟨(some 57), none, (.p (.bin .lss (.tmp 56) (.con (.int .i64 0))))⟩
  (.op ⟨(some 58), none, (.p (.un .not (.tmp 57)))⟩
  .done)))))))))))))))))
 (.cond (.tmp 58)
 .ret
 .skip))
 (.seq (.ops [] (.op ⟨(some 59), none, (.p (.val (.tmp 0)))⟩
  (.op ⟨(some 60), none, (.p (.val (.tmp 3)))⟩
  (.op ⟨(some 61), none, (.p (.val (.tmp 10)))⟩
  (.op ⟨(some 62), none, (.p (.bin .add (.tmp 60) (.tmp 61)))⟩
  (.op ⟨(some 63), none, (.p (.val (.tmp 0)))⟩
  (.op ⟨(some 64), none, (.p (.val (.tmp 3)))⟩
  (.op ⟨(some 65), none, (.p (.val (.tmp 11)))⟩
  (.op ⟨(some 66), none, (.p (.bin .add (.tmp 64) (.tmp 65)))⟩
  (.op ⟨(some 67), none, (.p (.val (.tmp 0)))⟩
  (.op ⟨(some 68), none, (.p (.val (.tmp 3)))⟩
  (.op ⟨(some 69), none, (.p (.val (.tmp 11)))⟩
  (.op ⟨(some 70), none, (.p (.bin .add (.tmp 68) (.tmp 69)))⟩
  (.op ⟨(some 71), none, (.p (.iaddr 2 (.tmp 67) (.tmp 70)))⟩
  (.op ⟨(some 72), none, (.p (.loadi true 2 (.tmp 71)))⟩
  (.op ⟨(some 73), none, (.p (.val (.tmp 0)))⟩
  (.op ⟨(some 74), none, (.p (.val (.tmp 3)))⟩
  (.op ⟨(some 75), none, (.p (.val (.tmp 10)))⟩
  (.op ⟨(some 76), none, (.p (.bin .add (.tmp 74) (.tmp 75)))⟩
  (.op ⟨(some 77), none, (.p (.iaddr 2 (.tmp 73) (.tmp 76)))⟩
  (.op ⟨(some 78), none, (.p (.loadi true 2 (.tmp 77)))⟩
  (.op ⟨(some 79), none, (.p (.iaddr 2 (.tmp 59) (.tmp 62)))⟩
  (.op ⟨none, none, (.store 2 (.tmp 79) (.tmp 72))⟩
  (.op ⟨(some 80), none, (.p (.iaddr 2 (.tmp 63) (.tmp 66)))⟩
  (.op ⟨none, none, (.store 2 (.tmp 80) (.tmp 78))⟩
  .done)))))))))))))))))))))))))
 (.ops [] (.op ⟨(some 81), none, (.p (.val (.tmp 11)))⟩
  (.op ⟨(some 10), none, (.p (.val (.tmp 81)))⟩
  .done))))))))))))⟩
theorem i86_is : compFunc Tryd.prog ⟨[], [], [29, 36, 48, 54, 71, 77, 79, 80]⟩ [] 86 = some i86 := by kernel_rfl

/-- slices.nextPowerOfTwo -/
def i87 : IFn := ⟨1, 7, [.tmp 2],
 (.seq (.ops [] (.op ⟨(some 2), none, (.p (.val (.con (.int .u64 0))))⟩
  .done))
 (.seq (.ops [] (.op ⟨(some 3), none, (.p (.val (.tmp 0)))⟩
  (.op ⟨(some 4), none, (.p (.cvi .u64 (.tmp 3)))⟩
  (.op ⟨(some 5), none, (.call 66 [(.tmp 4)])⟩
  (.op ⟨(some 6), none, (.p (.bin .shl (.con (.int .u64 1)) (.tmp 5)))⟩
  (.op ⟨(some 2), none, (.p (.val (.tmp 6)))⟩
  .done))))))
 .ret))⟩
theorem i87_is : compFunc Tryd.prog ⟨[], [], []⟩ [] 87 = some i87 := by kernel_rfl

/-- (*slices.xorshift).Next -/
def i88 : IFn := ⟨1, 33, [.tmp 2],
 (.seq (.ops [] (.op ⟨(some 2), none, (.p (.val (.con (.int .u64 0))))⟩
  .done))
 (.seq (.ops [] (.op ⟨(some 3), none, (.p (.val (.tmp 0)))⟩
  (.op ⟨(some 4), none, (.p (.nilchk (.tmp 3)))⟩
  (.op ⟨(some 5), none, (.load false 1 (.tmp 4))⟩
  (.op ⟨(some 6), none, (.p (.val (.tmp 0)))⟩
  (.op ⟨(some 7), none, (.p (.nilchk (.tmp 6)))⟩
  (.op ⟨(some 8), none, (.load false 1 (.tmp 7))⟩
  (.op ⟨(some 9), none, (.p (.bin .shl (.tmp 8) (.con (.int .u64 13))))⟩
  (.op ⟨(some 10), none, (.p (.bin .xor (.tmp 5) (.tmp 9)))⟩
  (.op ⟨(some 11), none, (.p (.nilchk (.tmp 3)))⟩
  (.op ⟨none, none, (.store 1 (.tmp 11) (.tmp 10))⟩
  .done)))))))))))
 (.seq (.ops [] (.op ⟨(some 12), none, (.p (.val (.tmp 0)))⟩
  (.op ⟨(some 13), none, (.p (.nilchk (.tmp 12)))⟩
  (.op ⟨(some 14), none, (.load false 1 (.tmp 13))⟩
  (.op ⟨(some 15), none, (.p (.val (.tmp 0)))⟩
  (.op ⟨(some 16), none, (.p (.nilchk (.tmp 15)))⟩
  (.op ⟨(some 17), none, (.load false 1 (.tmp 16))⟩
  (.op ⟨(some 18), none, (.p (.bin .shr (.tmp 17) (.con (.int .u64 7))))⟩
  (.op ⟨(some 19), none, (.p (.bin .xor (.tmp 14) (.tmp 18)))⟩
  (.op ⟨(some 20), none, (.p (.nilchk (.tmp 12)))⟩
  (.op ⟨none, none, (.store 1 (.tmp 20) (.tmp 19))⟩
  .done)))))))))))
 (.seq (.ops [] (.op ⟨(some 21), none, (.p (.val (.tmp 0)))⟩
  (.op ⟨(some 22), none, (.p (.nilchk (.tmp 21)))⟩
  (.op ⟨(some 23), none, (.load false 1 (.tmp 22))⟩
  (.op ⟨(some 24), none, (.p (.val (.tmp 0)))⟩
  (.op ⟨(some 25), none, (.p (.nilchk (.tmp 24)))⟩
  (.op ⟨(some 26), none, (.load false 1 (.tmp 25))⟩
  (.op ⟨(some 27), none, (.p (.bin .shl (.tmp 26) (.con (.int .u64 17))))⟩
  (.op ⟨(some 28), none, (.p (.bin .xor (.tmp 23) (.tmp 27)))⟩
  (.op ⟨(some 29), none, (.p (.nilchk (.tmp 21)))⟩
  (.op ⟨none, none, (.store 1 (.tmp 29) (.tmp 28))⟩
  .done)))))))))))
 (.seq (.ops [] (.op ⟨(some 30), none, (.p (.val (.tmp 0)))⟩
  (.op ⟨(some 31), none, (.p (.nilchk (.tmp 30)))⟩
  (.op ⟨(some 32), none, (.load false 1 (.tmp 31))⟩
  (.op ⟨(some 2), none, (.p (.val (.tmp 32)))⟩
  .done)))))
 .ret)))))⟩
theorem i88_is : compFunc Tryd.prog ⟨[], [], []⟩ [] 88 = some i88 := by kernel_rfl

/-- slices.medianAdjacentCmpFunc[baton/fence.place] -/
def i89 : IFn := ⟨4, 18, [.tmp 8],
 (.seq (.ops [] (.op ⟨(some 8), none, (.p (.val (.con (.int .i64 0))))⟩
  .done))
 (.seq (.ops [] (.op ⟨(some 9), none, (.p (.val (.tmp 0)))⟩
  (.op ⟨(some 10), none, (.p (.val (.tmp 1)))⟩
  (.op ⟨(some 11), none, (.p (.bin .sub (.tmp 10) (.con (.int .i64 1))))⟩
  (.op ⟨(some 12), none, (.p (.val (.tmp 1)))⟩
  (.op ⟨(some 13), none, (.p (.val (.tmp 1)))⟩
  (.op ⟨(some 14), none, (.p (.bin .add (.tmp 13) (.con (.int .i64 1))))⟩
  (.op ⟨(some 15), none, (.p (.val (.tmp 2)))⟩
  (.op ⟨(some 16), none, (.p (.val (.tmp 3)))⟩
  (.op ⟨(some 17), none, (.call 90 [(.tmp 9), (.tmp 11), (.tmp 12), (.tmp 14), (.tmp 15), (.tmp 16)])⟩
  (.op ⟨(some 8), none, (.p (.val (.tmp 17)))⟩
  .done)))))))))))
 .ret))⟩
theorem i89_is : compFunc Tryd.prog ⟨[], [], []⟩ [] 89 = some i89 := by kernel_rfl

/-- slices.medianCmpFunc[baton/fence.place] -/
def i90 : IFn := ⟨6, 41, [.tmp 12],
 (.seq (.ops [] (.op ⟨(some 12), none, (.p (.val (.con (.int .i64 0))))⟩
  .done))
 (.seq (.ops [] (.op ⟨(some 14), none, (.p (.val (.tmp 0)))⟩
  (.op ⟨(some 15), none, (.p (.val (.tmp 1)))⟩
  (.op ⟨(some 16), none, (.p (.val (.tmp 2)))⟩
  (.op ⟨(some 17), none, (.p (.val (.tmp 4)))⟩
  (.op ⟨(some 18), none, (.p (.val (.tmp 5)))⟩
  (.op ⟨(some 19), none, (.call 92 [(.tmp 14), (.tmp 15), (.tmp 16), (.tmp 17), (.tmp 18)])⟩
  (.op ⟨(some 13), none, (.p (.val (.tmp 19)))⟩
  (.op ⟨(some 20), none, (.p (.ext 0 (.tmp 13)))⟩
  (.op ⟨(some 21), none, (.p (.ext 1 (.tmp 13)))⟩
  (.op ⟨(some 1), none, (.p (.val (.tmp 20)))⟩
  (.op ⟨(some 2), none, (.p (.val (.tmp 21)))⟩
  .done))))))))))))
 (.seq (.ops [] (.op ⟨(some 23), none, (.p (.val (.tmp 0)))⟩
  (.op ⟨(some 24), none, (.p (.val (.tmp 2)))⟩
  (.op ⟨(some 25), none, (.p (.val (.tmp 3)))⟩
  (.op ⟨(some 26), none, (.p (.val (.tmp 4)))⟩
  (.op ⟨(some 27), none, (.p (.val (.tmp 5)))⟩
  (.op ⟨(some 28), none, (.call 92 [(.tmp 23), (.tmp 24), (.tmp 25), (.tmp 26), (.tmp 27)])⟩
  (.op ⟨(some 22), none, (.p (.val (.tmp 28)))⟩
  (.op ⟨(some 29), none, (.p (.ext 0 (.tmp 22)))⟩
  (.op ⟨(some 30), none, (.p (.ext 1 (.tmp 22)))⟩
  (.op ⟨(some 2), none, (.p (.val (.tmp 29)))⟩
  (.op ⟨(some 3), none, (.p (.val (.tmp 30)))⟩
  .done))))))))))))
 (.seq (.ops [] (.op ⟨(some 32), none, (.p (.val (.tmp 0)))⟩
  (.op ⟨(some 33), none, (.p (.val (.tmp 1)))⟩
  (.op ⟨(some 34), none, (.p (.val (.tmp 2)))⟩
  (.op ⟨(some 35), none, (.p (.val (.tmp 4)))⟩
  (.op ⟨(some 36), none, (.p (.val (.tmp 5)))⟩
  (.op ⟨(some 37), none, (.call 92 [(.tmp 32), (.tmp 33), (.tmp 34), (.tmp 35), (.tmp 36)])⟩
  (.op ⟨(some 31), none, (.p (.val (.tmp 37)))⟩
  (.op ⟨(some 38), none, (.p (.ext 0 (.tmp 31)))⟩
  (.op ⟨(some 39), none, (.p (.ext 1 (.tmp 31)))⟩
  (.op ⟨(some 1), none, (.p (.val (.tmp 38)))⟩
  (.op ⟨(some 2), none, (.p (.val (.tmp 39)))⟩
  .done))))))))))))
 (.seq (.ops [] (.op ⟨(some 40), none, (.p (.val (.tmp 2)))⟩
  (.op ⟨(some 12), none, (.p (.val (.tmp 40)))⟩
  .done)))
 .ret)))))⟩
theorem i90_is : compFunc Tryd.prog ⟨[], [], []⟩ [] 90 = some i90 := by kernel_rfl

/-- cmp.isNaN[int64] -/
def i91 : IFn := ⟨1, 6, [.tmp 2],
 (.seq (.ops [] (.op ⟨(some 2), none, (.p (.val (.con (.bool false))))⟩
  .done))
 (.seq (.ops [] (.op ⟨(some 3), none, (.p (.val (.tmp 0)))⟩
  (.op ⟨(some 4), none, (.p (.val (.tmp 0)))⟩
  (.op ⟨(some 5), none, (.p (.bin .neq (.tmp 3) (.tmp 4)))⟩
  (.op ⟨(some 2), none, (.p (.val (.tmp 5)))⟩
  .done)))))
 .ret))⟩
theorem i91_is : compFunc Tryd.prog ⟨[], [], []⟩ [] 91 = some i91 := by kernel_rfl

/-- slices.order2CmpFunc[baton/fence.place] -/
def i92 : IFn := ⟨5, 32, [.tmp 10, .tmp 11],
 (.seq (.ops [] (.op ⟨(some 10), none, (.p (.val (.con (.int .i64 0))))⟩
  (.op ⟨(some 11), none, (.p (.val (.con (.int .i64 0))))⟩
  .done)))
 (.seq (.seq (.ops [] (.op ⟨(some 12), none, (.p (.val (.tmp 4)))⟩
  (.op ⟨(some 13), none, (.p (.val (.tmp 0)))⟩
  (.op ⟨(some 14), none, (.p (.val (.tmp 2)))⟩
  (.op ⟨(some 15), none, (.p (.iaddr 2 (.tmp 13) (.tmp 14)))⟩
  (.op ⟨(some 16), none, (.p (.loadi true 2 (.tmp 15)))⟩
  (.op ⟨(some 17), none, (.p (.val (.tmp 0)))⟩
  (.op ⟨(some 18), none, (.p (.val (.tmp 1)))⟩
  (.op ⟨(some 19), none, (.p (.iaddr 2 (.tmp 17) (.tmp 18)))⟩
  (.op ⟨(some 20), none, (.p (.loadi true 2 (.tmp 19)))⟩
  (.op ⟨(some 21), none, (.callv (.tmp 12) [(.tmp 16), (.tmp 20)])⟩
  (.op ⟨(some 22), none, (.p (.bin .lss (.tmp 21) (.con (.int .i64 0))))⟩
  .done))))))))))))
 (.cond (.tmp 22)
 (.seq (.ops [] (.op ⟨(some 23), none, (.p (.val (.tmp 3)))⟩
  (.op ⟨(some 24), none, (.p (.nilchk (.tmp 23)))⟩
  (.op ⟨(some 25), none, (.load false 1 (.tmp 24))⟩
  (.op ⟨(some 26), none, (.p (.bin .add (.tmp 25) (.con (.int .i64 1))))⟩
  (.op ⟨(some 27), none, (.p (.nilchk (.tmp 23)))⟩
  (.op ⟨none, none, (.store 1 (.tmp 27) (.tmp 26))⟩
  .done)))))))
 (.seq (.ops [] (.op ⟨(some 28), none, (.p (.val (.tmp 2)))⟩
  (.op ⟨(some 29), none, (.p (.val (.tmp 1)))⟩
  (.op ⟨(some 10), none, (.p (.val (.tmp 28)))⟩
  (.op ⟨(some 11), none, (.p (.val (.tmp 29)))⟩
  .done)))))
 .ret))
 .skip))
 (.seq (.ops [] (.op ⟨(some 30), none, (.p (.val (.tmp 1)))⟩
  (.op ⟨(some 31), none, (.p (.val (.tmp 2)))⟩
  (.op ⟨(some 10), none, (.p (.val (.tmp 30)))⟩
  (.op ⟨(some 11), none, (.p (.val (.tmp 31)))⟩
  .done)))))
 .ret)))⟩
theorem i92_is : compFunc Tryd.prog ⟨[], [], [15, 19]⟩ [] 92 = some i92 := by kernel_rfl

-- 115 gosem.cut.vars: BAD

end Go.Proofs.Trydv
