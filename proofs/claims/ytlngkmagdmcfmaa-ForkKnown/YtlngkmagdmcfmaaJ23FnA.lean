/-
  The translated functions of this claim, printed by a program of ours (gen.sh), with the kernel's word that they are the translation.
  Conditions: none.
-/
import Derived.Test.YtlngkmagdmcfmaaProg
import Derived.Test.YtlngkmagdmcfmaaAbConv
import Derived.KernelRfl
namespace Go.Ab.Try
open Go.Proofs
/- dialtone/dialtonelaw23.ForkKnown -/
def m10r0 : List MOper := [⟨.mv (.lit (.bool false)), none, (some 0), []⟩]
def m10r1 : List MOper := [⟨.call 11 [(.lit .nils)], none, (some 17), []⟩,
  ⟨.mv (.tmp 17), none, (some 16), [17]⟩,
  ⟨.ext 0 (.tmp 16), none, (some 18), [16]⟩,
  ⟨.ext 1 (.tmp 16), none, (some 19), [16]⟩,
  ⟨.ext 2 (.tmp 16), none, (some 20), [16]⟩,
  ⟨.zbox [.nils, (.int .i64 0), (.bool false), (.bool false), (.bool false)], none, (some 1), []⟩,
  ⟨.store 5 (.tmp 1) (.tmp 18), none, none, [1, 18]⟩,
  ⟨.mv (.tmp 19), none, (some 2), [19]⟩,
  ⟨.mv (.tmp 20), none, (some 3), [20]⟩]
def m10r2 : List MOper := [⟨.mkfrz [(.int .i64 0)] 1 [(0, (.lit (.int .i64 500)))], none, (some 22), []⟩,
  ⟨.call 26 [(.tmp 22)], none, (some 23), [22]⟩,
  ⟨.call 11 [(.tmp 23)], none, (some 24), [23]⟩,
  ⟨.mv (.tmp 24), none, (some 21), [24]⟩,
  ⟨.ext 0 (.tmp 21), none, (some 25), [21]⟩,
  ⟨.ext 1 (.tmp 21), none, (some 26), [21]⟩,
  ⟨.ext 2 (.tmp 21), none, (some 27), [21]⟩,
  ⟨.zbox [.nils, (.int .i64 0), (.bool false), (.bool false), (.bool false)], none, (some 4), []⟩,
  ⟨.store 5 (.tmp 4) (.tmp 25), none, none, [4, 25]⟩,
  ⟨.mv (.tmp 26), none, (some 5), [26]⟩,
  ⟨.mv (.tmp 27), none, (some 6), [27]⟩]
def m10r3 : List MOper := [⟨.mkfrz [(.int .i64 0)] 1 [(0, (.lit (.int .i64 1001)))], none, (some 29), []⟩,
  ⟨.call 26 [(.tmp 29)], none, (some 30), [29]⟩,
  ⟨.call 11 [(.tmp 30)], none, (some 31), [30]⟩,
  ⟨.mv (.tmp 31), none, (some 28), [31]⟩,
  ⟨.ext 0 (.tmp 28), none, (some 32), [28]⟩,
  ⟨.ext 1 (.tmp 28), none, (some 33), [28]⟩,
  ⟨.ext 2 (.tmp 28), none, (some 34), [28]⟩,
  ⟨.zbox [.nils, (.int .i64 0), (.bool false), (.bool false), (.bool false)], none, (some 7), []⟩,
  ⟨.store 5 (.tmp 7) (.tmp 32), none, none, [7, 32]⟩,
  ⟨.mv (.tmp 33), none, (some 8), [33]⟩,
  ⟨.mv (.tmp 34), none, (some 9), [34]⟩]
def m10r4 : List MOper := [⟨.build [(.str []), (.int .i64 0)] [(0, 1, (.lit (.str [97]))), (1, 1, (.lit (.int .i64 1)))], none, (some 36), []⟩,
  ⟨.build [(.str []), (.int .i64 0)] [(0, 1, (.lit (.str [97]))), (1, 1, (.lit (.int .i64 2)))], none, (some 37), []⟩,
  ⟨.mkfrz [(.str []), (.int .i64 0)] 2 [(0, (.tmp 36)), (1, (.tmp 37))], none, (some 38), [36, 37]⟩,
  ⟨.call 11 [(.tmp 38)], none, (some 39), [38]⟩,
  ⟨.mv (.tmp 39), none, (some 35), [39]⟩,
  ⟨.ext 0 (.tmp 35), none, (some 40), [35]⟩,
  ⟨.ext 1 (.tmp 35), none, (some 41), [35]⟩,
  ⟨.ext 2 (.tmp 35), none, (some 42), [35]⟩,
  ⟨.zbox [.nils, (.int .i64 0), (.bool false), (.bool false), (.bool false)], none, (some 10), []⟩,
  ⟨.store 5 (.tmp 10) (.tmp 40), none, none, [10, 40]⟩,
  ⟨.mv (.tmp 41), none, (some 11), [41]⟩,
  ⟨.mv (.tmp 42), none, (some 12), [42]⟩]
def m10r5 : List MOper := [⟨.make [(.str []), (.int .i64 0)] 24 (.lit (.int .i64 17)) (.lit (.int .i64 17)), none, (some 44), []⟩,
  ⟨.call 11 [(.tmp 44)], none, (some 45), [44]⟩,
  ⟨.mv (.tmp 45), none, (some 43), [45]⟩,
  ⟨.ext 0 (.tmp 43), none, (some 46), [43]⟩,
  ⟨.ext 1 (.tmp 43), none, (some 47), [43]⟩,
  ⟨.ext 2 (.tmp 43), none, (some 48), [43]⟩,
  ⟨.zbox [.nils, (.int .i64 0), (.bool false), (.bool false), (.bool false)], none, (some 13), []⟩,
  ⟨.store 5 (.tmp 13) (.tmp 46), none, none, [13, 46]⟩,
  ⟨.mv (.tmp 47), none, (some 14), [47]⟩,
  ⟨.mv (.tmp 48), none, (some 15), [48]⟩]
def m10r6 : List MOper := [⟨.mv (.tmp 3), none, (some 49), [3]⟩,
  ⟨.bin .neq .other (.tmp 49) (.lit (.int .u8 0)), none, (some 50), [49]⟩,
  ⟨.mv (.tmp 50), none, (some 51), [50]⟩,
  ⟨.faddr 4 (.tmp 1), (some (51, false)), (some 52), [1]⟩,
  ⟨.load none (.tmp 52), (some (51, false)), (some 53), [52]⟩,
  ⟨.un .not (.tmp 53), (some (51, false)), (some 54), [53]⟩,
  ⟨.pick (.tmp 51) (.lit (.bool true)) (.tmp 54), none, (some 55), [51, 54]⟩,
  ⟨.mv (.tmp 55), none, (some 56), [55]⟩,
  ⟨.mv (.tmp 2), (some (56, false)), (some 57), [2]⟩,
  ⟨.build [(.int .u8 0), (.int .i64 0), (.int .i64 0)] [(0, 1, (.lit (.int .u8 6))), (1, 1, (.lit (.int .i64 (-1)))), (2, 1, (.lit (.int .i64 480)))], (some (56, false)), (some 58), []⟩,
  ⟨.mkfrz [(.int .u8 0), (.int .i64 0), (.int .i64 0)] 1 [(0, (.tmp 58))], (some (56, false)), (some 59), [58]⟩,
  ⟨.call 14 [(.tmp 57), (.tmp 59)], (some (56, false)), (some 60), [57, 59]⟩,
  ⟨.un .not (.tmp 60), (some (56, false)), (some 61), [60]⟩,
  ⟨.pick (.tmp 56) (.lit (.bool true)) (.tmp 61), none, (some 62), [56, 61]⟩,
  ⟨.mv (.tmp 62), none, (some 63), [62]⟩,
  ⟨.mv (.tmp 6), (some (63, false)), (some 64), [6]⟩,
  ⟨.bin .neq .other (.tmp 64) (.lit (.int .u8 0)), (some (63, false)), (some 65), [64]⟩,
  ⟨.pick (.tmp 63) (.lit (.bool true)) (.tmp 65), none, (some 66), [63, 65]⟩,
  ⟨.mv (.tmp 66), none, (some 67), [66]⟩,
  ⟨.mv (.tmp 5), (some (67, false)), (some 68), [5]⟩,
  ⟨.build [(.int .u8 0), (.int .i64 0), (.int .i64 0)] [(0, 1, (.lit (.int .u8 1)))], (some (67, false)), (some 69), []⟩,
  ⟨.mkfrz [(.int .u8 0), (.int .i64 0), (.int .i64 0)] 1 [(0, (.tmp 69))], (some (67, false)), (some 70), [69]⟩,
  ⟨.call 14 [(.tmp 68), (.tmp 70)], (some (67, false)), (some 71), [68, 70]⟩,
  ⟨.un .not (.tmp 71), (some (67, false)), (some 72), [71]⟩,
  ⟨.pick (.tmp 67) (.lit (.bool true)) (.tmp 72), none, (some 73), [67, 72]⟩,
  ⟨.mv (.tmp 73), none, (some 74), [73]⟩,
  ⟨.mv (.tmp 9), (some (74, false)), (some 75), [9]⟩,
  ⟨.bin .neq .other (.tmp 75) (.lit (.int .u8 2)), (some (74, false)), (some 76), [75]⟩,
  ⟨.pick (.tmp 74) (.lit (.bool true)) (.tmp 76), none, (some 77), [74, 76]⟩,
  ⟨.mv (.tmp 77), none, (some 78), [77]⟩,
  ⟨.mv (.tmp 12), (some (78, false)), (some 79), [12]⟩,
  ⟨.bin .neq .other (.tmp 79) (.lit (.int .u8 7)), (some (78, false)), (some 80), [79]⟩,
  ⟨.pick (.tmp 78) (.lit (.bool true)) (.tmp 80), none, (some 81), [78, 80]⟩,
  ⟨.mv (.tmp 81), none, (some 82), [81]⟩,
  ⟨.mv (.tmp 15), (some (82, false)), (some 83), [15]⟩,
  ⟨.bin .neq .other (.tmp 83) (.lit (.int .u8 4)), (some (82, false)), (some 84), [83]⟩,
  ⟨.pick (.tmp 82) (.lit (.bool true)) (.tmp 84), none, (some 85), [82, 84]⟩]
def m10r7 : List MOper := [⟨.mv (.lit (.bool false)), none, (some 0), []⟩]
def m10r8 : List MOper := [⟨.load (some 5) (.tmp 4), none, (some 87), [4]⟩,
  ⟨.build [(.int .u8 0), (.int .i64 0), (.int .i64 0)] [(0, 1, (.lit (.int .u8 4)))], none, (some 88), []⟩,
  ⟨.call 20 [(.tmp 87), (.tmp 88)], none, (some 89), [87, 88]⟩,
  ⟨.mv (.tmp 89), none, (some 86), [89]⟩,
  ⟨.ext 0 (.tmp 86), none, (some 90), [86]⟩,
  ⟨.ext 1 (.tmp 86), none, (some 91), [86]⟩,
  ⟨.ext 2 (.tmp 86), none, (some 92), [86]⟩,
  ⟨.store 5 (.tmp 4) (.tmp 90), none, none, [4, 90]⟩,
  ⟨.mv (.tmp 91), none, (some 5), [91]⟩,
  ⟨.mv (.tmp 92), none, (some 3), [92]⟩]
def m10r9 : List MOper := [⟨.mv (.tmp 3), none, (some 93), [3]⟩,
  ⟨.bin .neq .other (.tmp 93) (.lit (.int .u8 0)), none, (some 94), [93]⟩,
  ⟨.mv (.tmp 94), none, (some 95), [94]⟩,
  ⟨.mv (.tmp 5), (some (95, false)), (some 96), [5]⟩,
  ⟨.len 1 (.tmp 96), (some (95, false)), (some 97), [96]⟩,
  ⟨.bin .neq .other (.tmp 97) (.lit (.int .i64 0)), (some (95, false)), (some 98), [97]⟩,
  ⟨.pick (.tmp 95) (.lit (.bool true)) (.tmp 98), none, (some 99), [95, 98]⟩]
def m10r10 : List MOper := [⟨.mv (.lit (.bool false)), none, (some 0), []⟩]
def m10r11 : List MOper := [⟨.load (some 5) (.tmp 4), none, (some 101), [4]⟩,
  ⟨.build [(.int .u8 0), (.int .i64 0), (.int .i64 0)] [(0, 1, (.lit (.int .u8 1))), (2, 1, (.lit (.int .i64 180)))], none, (some 102), []⟩,
  ⟨.call 20 [(.tmp 101), (.tmp 102)], none, (some 103), [101, 102]⟩,
  ⟨.mv (.tmp 103), none, (some 100), [103]⟩,
  ⟨.ext 0 (.tmp 100), none, (some 104), [100]⟩,
  ⟨.ext 1 (.tmp 100), none, (some 105), [100]⟩,
  ⟨.ext 2 (.tmp 100), none, (some 106), [100]⟩,
  ⟨.store 5 (.tmp 4) (.tmp 104), none, none, [4, 104]⟩,
  ⟨.mv (.tmp 105), none, (some 5), [105]⟩,
  ⟨.mv (.tmp 106), none, (some 3), [106]⟩]
def m10r12 : List MOper := [⟨.mv (.tmp 3), none, (some 107), [3]⟩,
  ⟨.bin .neq .other (.tmp 107) (.lit (.int .u8 0)), none, (some 108), [107]⟩,
  ⟨.mv (.tmp 108), none, (some 109), [108]⟩,
  ⟨.mv (.tmp 5), (some (109, false)), (some 110), [5]⟩,
  ⟨.build [(.int .u8 0), (.int .i64 0), (.int .i64 0)] [(0, 1, (.lit (.int .u8 2)))], (some (109, false)), (some 111), []⟩,
  ⟨.mkfrz [(.int .u8 0), (.int .i64 0), (.int .i64 0)] 1 [(0, (.tmp 111))], (some (109, false)), (some 112), [111]⟩,
  ⟨.call 14 [(.tmp 110), (.tmp 112)], (some (109, false)), (some 113), [110, 112]⟩,
  ⟨.un .not (.tmp 113), (some (109, false)), (some 114), [113]⟩,
  ⟨.pick (.tmp 109) (.lit (.bool true)) (.tmp 114), none, (some 115), [109, 114]⟩]
def m10r13 : List MOper := [⟨.mv (.lit (.bool false)), none, (some 0), []⟩]
def m10r14 : List MOper := [⟨.load (some 5) (.tmp 4), none, (some 117), [4]⟩,
  ⟨.build [(.int .u8 0), (.int .i64 0), (.int .i64 0)] [(0, 1, (.lit (.int .u8 2))), (2, 1, (.lit (.int .i64 487)))], none, (some 118), []⟩,
  ⟨.call 20 [(.tmp 117), (.tmp 118)], none, (some 119), [117, 118]⟩,
  ⟨.mv (.tmp 119), none, (some 116), [119]⟩,
  ⟨.ext 0 (.tmp 116), none, (some 120), [116]⟩,
  ⟨.ext 1 (.tmp 116), none, (some 121), [116]⟩,
  ⟨.ext 2 (.tmp 116), none, (some 122), [116]⟩,
  ⟨.mv (.tmp 121), none, (some 5), [121]⟩,
  ⟨.mv (.tmp 122), none, (some 3), [122]⟩]
def m10r15 : List MOper := [⟨.mv (.tmp 3), none, (some 123), [3]⟩,
  ⟨.bin .eql .other (.tmp 123) (.lit (.int .u8 0)), none, (some 124), [123]⟩,
  ⟨.mv (.tmp 124), none, (some 125), [124]⟩,
  ⟨.mv (.tmp 5), (some (125, true)), (some 126), [5]⟩,
  ⟨.build [(.int .u8 0), (.int .i64 0), (.int .i64 0)] [(0, 1, (.lit (.int .u8 6))), (1, 1, (.lit (.int .i64 (-1)))), (2, 1, (.lit (.int .i64 487)))], (some (125, true)), (some 127), []⟩,
  ⟨.mkfrz [(.int .u8 0), (.int .i64 0), (.int .i64 0)] 1 [(0, (.tmp 127))], (some (125, true)), (some 128), [127]⟩,
  ⟨.call 14 [(.tmp 126), (.tmp 128)], (some (125, true)), (some 129), [126, 128]⟩,
  ⟨.pick (.tmp 125) (.tmp 129) (.lit (.bool false)), none, (some 130), [125, 129]⟩,
  ⟨.mv (.tmp 130), none, (some 131), [130]⟩,
  ⟨.call 19 [], (some (131, true)), (some 132), []⟩,
  ⟨.pick (.tmp 131) (.tmp 132) (.lit (.bool false)), none, (some 133), [131, 132]⟩,
  ⟨.mv (.tmp 133), none, (some 0), [133]⟩]
def m10 : MFunc := ⟨134, [.tmp 0],
  (.seq (.region m10r0 [])
  (.seq (.region m10r1 [1, 2, 3])
  (.seq (.region m10r2 [1, 2, 3, 4, 5, 6])
  (.seq (.region m10r3 [1, 2, 3, 4, 5, 6, 9])
  (.seq (.region m10r4 [1, 2, 3, 4, 5, 6, 9, 12])
  (.seq (.region m10r5 [1, 2, 3, 4, 5, 6, 9, 12, 15])
  (.seq (.seq (.region m10r6 [4, 85])
  (.cond (.tmp 85)
  (.seq (.region m10r7 [0])
  .ret)
  .skip))
  (.seq (.region m10r8 [3, 4, 5])
  (.seq (.seq (.region m10r9 [4, 99])
  (.cond (.tmp 99)
  (.seq (.region m10r10 [0])
  .ret)
  .skip))
  (.seq (.region m10r11 [3, 4, 5])
  (.seq (.seq (.region m10r12 [4, 115])
  (.cond (.tmp 115)
  (.seq (.region m10r13 [0])
  .ret)
  .skip))
  (.seq (.region m10r14 [3, 5])
  (.seq (.region m10r15 [0])
  .ret)))))))))))))⟩
def h10 : List RH := [⟨[], 0, false⟩, ⟨[1, 2, 3], 0, false⟩, ⟨[1, 2, 3, 4, 5, 6], 0, false⟩, ⟨[1, 2, 3, 4, 5, 6, 9], 0, false⟩, ⟨[1, 2, 3, 4, 5, 6, 9, 12], 0, false⟩, ⟨[1, 2, 3, 4, 5, 6, 9, 12, 15], 0, false⟩, ⟨[4, 85], 0, false⟩, ⟨[0], 0, false⟩, ⟨[3, 4, 5], 0, false⟩, ⟨[4, 99], 0, false⟩, ⟨[0], 0, false⟩, ⟨[3, 4, 5], 0, false⟩, ⟨[4, 115], 0, false⟩, ⟨[0], 0, false⟩, ⟨[3, 5], 0, false⟩, ⟨[0], 0, false⟩]
theorem m10_ok : cmpFn Try.prog 10 h10 = some m10 := by kernel_rfl

/- dialtone/fork.New -/
def m11r0 : List MOper := [⟨.zbox [.nils, (.int .i64 0), (.bool false), (.bool false), (.bool false)], none, (some 2), []⟩,
  ⟨.mv (.lit .nils), none, (some 3), []⟩,
  ⟨.mv (.lit (.int .u8 0)), none, (some 4), []⟩]
def m11r1 : List MOper := [⟨.mv (.tmp 0), none, (some 9), [0]⟩,
  ⟨.len 1 (.tmp 9), none, (some 10), [9]⟩,
  ⟨.bin .gtr .other (.tmp 10) (.lit (.int .i64 16)), none, (some 11), [10]⟩]
def m11r2 : List MOper := [⟨.build [.nils, (.int .i64 0), (.bool false), (.bool false), (.bool false)] [], none, (some 12), []⟩,
  ⟨.store 5 (.tmp 2) (.tmp 12), none, none, [2, 12]⟩,
  ⟨.mv (.lit .nils), none, (some 3), []⟩,
  ⟨.mv (.lit (.int .u8 4)), none, (some 4), []⟩]
def m11r3 : List MOper := [⟨.build [.nils, (.int .i64 0), (.bool false), (.bool false), (.bool false)] [(1, 1, (.lit (.int .i64 (-1))))], none, (some 13), []⟩,
  ⟨.zbox [.nils, (.int .i64 0), (.bool false), (.bool false), (.bool false)], none, (some 5), []⟩,
  ⟨.store 5 (.tmp 5) (.tmp 13), none, none, [5, 13]⟩]
def m11r4 : List MOper := [⟨.mv (.tmp 0), none, (some 14), [0]⟩,
  ⟨.len 1 (.tmp 14), none, (some 15), [14]⟩,
  ⟨.mv (.lit (.int .i64 0)), none, (some 16), []⟩]
def m11r5 : List MOper := [⟨.bin .lss .other (.tmp 16) (.tmp 15), none, (some 17), [16, 15]⟩]
def m11r6 : List MOper := [⟨.iaddr 2 (.tmp 14) (.tmp 16), none, (some 18), [14, 16]⟩,
  ⟨.load (some 2) (.tmp 18), none, (some 19), [18]⟩,
  ⟨.zbox [(.str []), (.int .i64 0)], none, (some 7), []⟩,
  ⟨.store 2 (.tmp 7) (.tmp 19), none, none, [7, 19]⟩]
def m11r7 : List MOper := [⟨.faddr 0 (.tmp 7), none, (some 20), [7]⟩,
  ⟨.load none (.tmp 20), none, (some 21), [20]⟩,
  ⟨.bin .eql .other (.tmp 21) (.lit (.str [])), none, (some 22), [21]⟩,
  ⟨.mv (.tmp 22), none, (some 23), [22]⟩,
  ⟨.faddr 1 (.tmp 7), (some (23, false)), (some 24), [7]⟩,
  ⟨.load none (.tmp 24), (some (23, false)), (some 25), [24]⟩,
  ⟨.bin .lss .other (.tmp 25) (.lit (.int .i64 0)), (some (23, false)), (some 26), [25]⟩,
  ⟨.pick (.tmp 23) (.lit (.bool true)) (.tmp 26), none, (some 27), [23, 26]⟩,
  ⟨.mv (.tmp 27), none, (some 28), [27]⟩,
  ⟨.faddr 1 (.tmp 7), (some (28, false)), (some 29), [7]⟩,
  ⟨.load none (.tmp 29), (some (28, false)), (some 30), [29]⟩,
  ⟨.bin .gtr .other (.tmp 30) (.lit (.int .i64 1000)), (some (28, false)), (some 31), [30]⟩,
  ⟨.pick (.tmp 28) (.lit (.bool true)) (.tmp 31), none, (some 32), [28, 31]⟩]
def m11r8 : List MOper := [⟨.build [.nils, (.int .i64 0), (.bool false), (.bool false), (.bool false)] [], none, (some 33), []⟩,
  ⟨.store 5 (.tmp 2) (.tmp 33), none, none, [2, 33]⟩,
  ⟨.mv (.lit .nils), none, (some 3), []⟩,
  ⟨.mv (.lit (.int .u8 2)), none, (some 4), []⟩]
def m11r9 : List MOper := [⟨.faddr 0 (.tmp 5), none, (some 34), [5]⟩,
  ⟨.load none (.tmp 34), none, (some 35), [34]⟩,
  ⟨.mkfn 28 [] [(.tmp 7)], none, (some 36), [7]⟩,
  ⟨.call 27 [(.tmp 35), (.tmp 36)], none, (some 37), [35, 36]⟩]
def m11r10 : List MOper := [⟨.build [.nils, (.int .i64 0), (.bool false), (.bool false), (.bool false)] [], none, (some 38), []⟩,
  ⟨.store 5 (.tmp 2) (.tmp 38), none, none, [2, 38]⟩,
  ⟨.mv (.lit .nils), none, (some 3), []⟩,
  ⟨.mv (.lit (.int .u8 7)), none, (some 4), []⟩]
def m11r11 : List MOper := [⟨.faddr 0 (.tmp 5), none, (some 39), [5]⟩,
  ⟨.load none (.tmp 39), none, (some 40), [39]⟩,
  ⟨.faddr 0 (.tmp 7), none, (some 41), [7]⟩,
  ⟨.load none (.tmp 41), none, (some 42), [41]⟩,
  ⟨.faddr 1 (.tmp 7), none, (some 43), [7]⟩,
  ⟨.load none (.tmp 43), none, (some 44), [43]⟩,
  ⟨.build [(.str []), (.int .i64 0), (.int .u8 0), (.int .i64 0)] [(0, 1, (.tmp 42)), (1, 1, (.tmp 44))], none, (some 45), [42, 44]⟩,
  ⟨.mkfrz [(.str []), (.int .i64 0), (.int .u8 0), (.int .i64 0)] 1 [(0, (.tmp 45))], none, (some 46), [45]⟩,
  ⟨.append 4 40 (.tmp 40) (.tmp 46), none, (some 47), [40, 46]⟩,
  ⟨.faddr 0 (.tmp 5), none, (some 48), [5]⟩,
  ⟨.store 1 (.tmp 48) (.tmp 47), none, none, [48, 47]⟩]
def m11r12 : List MOper := [⟨.bin .add .other (.tmp 16) (.lit (.int .i64 1)), none, (some 49), [16]⟩,
  ⟨.mv (.tmp 49), none, (some 16), [49]⟩]
def m11l13 : MCode := (.seq (.region m11r5 [2, 5, 14, 15, 16, 17])
  (.seq (.cond (.tmp 17)
  .skip
  (.exit 0))
  (.seq (.block 1 (.seq (.region m11r6 [2, 5, 7, 14, 15, 16])
  (.seq (.seq (.region m11r7 [2, 5, 7, 14, 15, 16, 32])
  (.cond (.tmp 32)
  (.seq (.region m11r8 [2, 3, 4])
  .ret)
  .skip))
  (.seq (.seq (.region m11r9 [2, 5, 7, 14, 15, 16, 37])
  (.cond (.tmp 37)
  (.seq (.region m11r10 [2, 3, 4])
  .ret)
  .skip))
  (.region m11r11 [2, 5, 14, 15, 16])))))
  (.region m11r12 [2, 5, 14, 15, 16]))))
def m11r14 : List MOper := [⟨.faddr 0 (.tmp 5), none, (some 50), [5]⟩,
  ⟨.load none (.tmp 50), none, (some 51), [50]⟩,
  ⟨.call 29 [(.tmp 51), (.lit (.func 30 [] []))], none, (some 52), [51]⟩]
def m11r15 : List MOper := [⟨.load (some 5) (.tmp 5), none, (some 53), [5]⟩,
  ⟨.build [.nils, (.int .i64 0), (.bool false), (.bool false), (.bool false), .nils] [(0, 5, (.tmp 53))], none, (some 54), [53]⟩,
  ⟨.box 6 (.tmp 54), none, (some 55), [54]⟩,
  ⟨.mv (.tmp 55), none, (some 8), [55]⟩]
def m11r16 : List MOper := [⟨.mv (.tmp 8), none, (some 56), [8]⟩,
  ⟨.call 31 [(.tmp 56)], none, (some 57), [56]⟩]
def m11r17 : List MOper := [⟨.mv (.tmp 8), none, (some 58), [8]⟩,
  ⟨.nilchk (.tmp 58), none, (some 59), [58]⟩,
  ⟨.faddr 0 (.tmp 59), none, (some 60), [59]⟩,
  ⟨.load (some 5) (.tmp 60), none, (some 61), [60]⟩,
  ⟨.mv (.tmp 8), none, (some 62), [8]⟩,
  ⟨.nilchk (.tmp 62), none, (some 63), [62]⟩,
  ⟨.faddr 5 (.tmp 63), none, (some 64), [63]⟩,
  ⟨.load none (.tmp 64), none, (some 65), [64]⟩]
def m11r18 : List MOper := [⟨.store 5 (.tmp 2) (.tmp 61), none, none, [2, 61]⟩,
  ⟨.mv (.tmp 65), none, (some 3), [65]⟩,
  ⟨.mv (.lit (.int .u8 0)), none, (some 4), []⟩]
def m11r19 : List MOper := [⟨.load none (.tmp 64), none, (some 65), [64]⟩]
def m11 : MFunc := ⟨66, [.cell 2 (some 5), .tmp 3, .tmp 4],
  (.seq (.region m11r0 [0, 2])
  (.seq (.seq (.region m11r1 [0, 2, 11])
  (.cond (.tmp 11)
  (.seq (.region m11r2 [2, 3, 4])
  .ret)
  .skip))
  (.seq (.region m11r3 [0, 2, 5])
  (.seq (.seq (.region m11r4 [2, 5, 14, 15, 16])
  (.block 0 (.loop [2, 5, 14, 15, 16] m11l13)))
  (.seq (.region m11r14 [2, 5])
  (.seq (.region m11r15 [2, 8])
  (.seq (.region m11r16 [2, 8])
  (.seq (.dregion m11r17 m11r18 m11r19 [2, 3, 4])
  .ret))))))))⟩
def h11 : List RH := [⟨[0, 2], 0, false⟩, ⟨[0, 2, 11], 0, false⟩, ⟨[2, 3, 4], 0, false⟩, ⟨[0, 2, 5], 0, false⟩, ⟨[2, 5, 14, 15, 16], 0, false⟩, ⟨[2, 5, 14, 15, 16], 0, false⟩, ⟨[2, 5, 14, 15, 16, 17], 0, false⟩, ⟨[2, 5, 7, 14, 15, 16], 0, false⟩, ⟨[2, 5, 7, 14, 15, 16, 32], 0, false⟩, ⟨[2, 3, 4], 0, false⟩, ⟨[2, 5, 7, 14, 15, 16, 37], 0, false⟩, ⟨[2, 3, 4], 0, false⟩, ⟨[2, 5, 14, 15, 16], 0, false⟩, ⟨[2, 5, 14, 15, 16], 0, false⟩, ⟨[2, 5], 0, false⟩, ⟨[2, 8], 0, false⟩, ⟨[2, 8], 0, false⟩, ⟨[2, 3, 4], 8, false⟩]
theorem m11_ok : cmpFn Try.prog 11 h11 = some m11 := by kernel_rfl

/- dialtone/dialtoneref23.SameActs -/
def m14r0 : List MOper := [⟨.mv (.lit (.bool false)), none, (some 4), []⟩]
def m14r1 : List MOper := [⟨.mv (.tmp 0), none, (some 6), [0]⟩,
  ⟨.len 1 (.tmp 6), none, (some 7), [6]⟩,
  ⟨.mv (.tmp 1), none, (some 8), [1]⟩,
  ⟨.len 1 (.tmp 8), none, (some 9), [8]⟩,
  ⟨.bin .neq .other (.tmp 7) (.tmp 9), none, (some 10), [7, 9]⟩]
def m14r2 : List MOper := [⟨.mv (.lit (.bool false)), none, (some 4), []⟩]
def m14r3 : List MOper := [⟨.mv (.lit (.int .i64 0)), none, (some 5), []⟩]
def m14r4 : List MOper := [⟨.mv (.tmp 5), none, (some 11), [5]⟩,
  ⟨.mv (.tmp 0), none, (some 12), [0]⟩,
  ⟨.len 1 (.tmp 12), none, (some 13), [12]⟩,
  ⟨.bin .lss .other (.tmp 11) (.tmp 13), none, (some 14), [11, 13]⟩]
def m14r5 : List MOper := [⟨.mv (.tmp 0), none, (some 17), [0]⟩,
  ⟨.mv (.tmp 5), none, (some 18), [5]⟩,
  ⟨.iaddr 3 (.tmp 17) (.tmp 18), none, (some 19), [17, 18]⟩,
  ⟨.load (some 3) (.tmp 19), none, (some 20), [19]⟩,
  ⟨.mv (.tmp 1), none, (some 21), [1]⟩,
  ⟨.mv (.tmp 5), none, (some 22), [5]⟩,
  ⟨.iaddr 3 (.tmp 21) (.tmp 22), none, (some 23), [21, 22]⟩,
  ⟨.load (some 3) (.tmp 23), none, (some 24), [23]⟩]
def m14r6 : List MOper := [⟨.bin .neq (.flat [0, 0, 0]) (.tmp 20) (.tmp 24), none, (some 25), [20, 24]⟩]
def m14r7 : List MOper := [⟨.mv (.lit (.bool false)), none, (some 4), []⟩]
def m14r8 : List MOper := [⟨.mv (.tmp 5), none, (some 15), [5]⟩,
  ⟨.bin .add .other (.tmp 15) (.lit (.int .i64 1)), none, (some 16), [15]⟩,
  ⟨.mv (.tmp 16), none, (some 5), [16]⟩]
def m14l9 : MCode := (.seq (.seq (.region m14r4 [0, 1, 5, 14])
  (.cond (.tmp 14)
  .skip
  (.exit 0)))
  (.seq (.block 1 (.seq (.dregion m14r5 m14r6 [] [0, 1, 5, 25])
  (.cond (.tmp 25)
  (.seq (.region m14r7 [4])
  .ret)
  .skip)))
  (.region m14r8 [0, 1, 5])))
def m14r10 : List MOper := [⟨.mv (.lit (.bool true)), none, (some 4), []⟩]
def m14 : MFunc := ⟨26, [.tmp 4],
  (.seq (.region m14r0 [0, 1])
  (.seq (.seq (.region m14r1 [0, 1, 10])
  (.cond (.tmp 10)
  (.seq (.region m14r2 [4])
  .ret)
  .skip))
  (.seq (.seq (.region m14r3 [0, 1, 5])
  (.block 0 (.loop [0, 1, 5] m14l9)))
  (.seq (.region m14r10 [4])
  .ret))))⟩
def h14 : List RH := [⟨[0, 1], 0, false⟩, ⟨[0, 1, 10], 0, false⟩, ⟨[4], 0, false⟩, ⟨[0, 1, 5], 0, false⟩, ⟨[0, 1, 5], 0, false⟩, ⟨[0, 1, 5, 14], 0, false⟩, ⟨[0, 1, 5, 25], 8, false⟩, ⟨[4], 0, false⟩, ⟨[0, 1, 5], 0, false⟩, ⟨[4], 0, false⟩]
theorem m14_ok : cmpFn Try.prog 14 h14 = some m14 := by kernel_rfl

/- dialtone/fork.Valid -/
def m15r0 : List MOper := [⟨.box 5 (.tmp 0), none, (some 1), [0]⟩,
  ⟨.mv (.lit (.bool false)), none, (some 2), []⟩]
def m15r1 : List MOper := [⟨.faddr 0 (.tmp 1), none, (some 8), [1]⟩,
  ⟨.load none (.tmp 8), none, (some 9), [8]⟩,
  ⟨.len 1 (.tmp 9), none, (some 10), [9]⟩,
  ⟨.bin .gtr .other (.tmp 10) (.lit (.int .i64 16)), none, (some 11), [10]⟩,
  ⟨.mv (.tmp 11), none, (some 12), [11]⟩,
  ⟨.faddr 1 (.tmp 1), (some (12, false)), (some 13), [1]⟩,
  ⟨.load none (.tmp 13), (some (12, false)), (some 14), [13]⟩,
  ⟨.bin .lss .other (.tmp 14) (.lit (.int .i64 (-1))), (some (12, false)), (some 15), [14]⟩,
  ⟨.pick (.tmp 12) (.lit (.bool true)) (.tmp 15), none, (some 16), [12, 15]⟩,
  ⟨.mv (.tmp 16), none, (some 17), [16]⟩,
  ⟨.faddr 1 (.tmp 1), (some (17, false)), (some 18), [1]⟩,
  ⟨.load none (.tmp 18), (some (17, false)), (some 19), [18]⟩,
  ⟨.faddr 0 (.tmp 1), (some (17, false)), (some 20), [1]⟩,
  ⟨.load none (.tmp 20), (some (17, false)), (some 21), [20]⟩,
  ⟨.len 1 (.tmp 21), (some (17, false)), (some 22), [21]⟩,
  ⟨.bin .geq .other (.tmp 19) (.tmp 22), (some (17, false)), (some 23), [19, 22]⟩,
  ⟨.pick (.tmp 17) (.lit (.bool true)) (.tmp 23), none, (some 24), [17, 23]⟩,
  ⟨.mv (.tmp 24), none, (some 25), [24]⟩,
  ⟨.faddr 2 (.tmp 1), (some (25, false)), (some 26), [1]⟩,
  ⟨.load none (.tmp 26), (some (25, false)), (some 27), [26]⟩,
  ⟨.mv (.tmp 27), (some (25, false)), (some 28), [27]⟩,
  ⟨.faddr 3 (.tmp 1), (some (28, true)), (some 29), [1]⟩,
  ⟨.load none (.tmp 29), (some (28, true)), (some 30), [29]⟩,
  ⟨.un .not (.tmp 30), (some (28, true)), (some 31), [30]⟩,
  ⟨.pick (.tmp 28) (.tmp 31) (.lit (.bool false)), (some (25, false)), (some 32), [28, 31]⟩,
  ⟨.pick (.tmp 25) (.lit (.bool true)) (.tmp 32), none, (some 33), [25, 32]⟩]
def m15r2 : List MOper := [⟨.mv (.lit (.bool false)), none, (some 2), []⟩]
def m15r3 : List MOper := [⟨.mkmap, none, (some 34), []⟩,
  ⟨.mv (.tmp 34), none, (some 3), [34]⟩]
def m15r4 : List MOper := [⟨.faddr 0 (.tmp 1), none, (some 35), [1]⟩,
  ⟨.load none (.tmp 35), none, (some 36), [35]⟩,
  ⟨.len 1 (.tmp 36), none, (some 37), [36]⟩,
  ⟨.mv (.lit (.int .i64 0)), none, (some 38), []⟩]
def m15r5 : List MOper := [⟨.bin .lss .other (.tmp 38) (.tmp 37), none, (some 39), [38, 37]⟩]
def m15r6 : List MOper := [⟨.mv (.tmp 38), none, (some 40), [38]⟩,
  ⟨.iaddr 4 (.tmp 36) (.tmp 38), none, (some 41), [36, 38]⟩,
  ⟨.load (some 4) (.tmp 41), none, (some 42), [41]⟩,
  ⟨.zbox [(.str []), (.int .i64 0), (.int .u8 0), (.int .i64 0)], none, (some 5), []⟩,
  ⟨.mv (.tmp 40), none, (some 4), [40]⟩,
  ⟨.store 4 (.tmp 5) (.tmp 42), none, none, [5, 42]⟩]
def m15r7 : List MOper := [⟨.load (some 5) (.tmp 1), none, (some 43), [1]⟩,
  ⟨.load (some 4) (.tmp 5), none, (some 44), [5]⟩,
  ⟨.call 33 [(.tmp 43), (.tmp 44)], none, (some 45), [43, 44]⟩,
  ⟨.un .not (.tmp 45), none, (some 46), [45]⟩,
  ⟨.mv (.tmp 46), none, (some 47), [46]⟩,
  ⟨.mv (.tmp 3), (some (47, false)), (some 48), [3]⟩,
  ⟨.faddr 0 (.tmp 5), (some (47, false)), (some 49), [5]⟩,
  ⟨.load none (.tmp 49), (some (47, false)), (some 50), [49]⟩,
  ⟨.look 2 (.bool false) false (.tmp 48) (.tmp 50), (some (47, false)), (some 51), [48, 50]⟩,
  ⟨.pick (.tmp 47) (.lit (.bool true)) (.tmp 51), none, (some 52), [47, 51]⟩]
def m15r8 : List MOper := [⟨.mv (.lit (.bool false)), none, (some 2), []⟩]
def m15r9 : List MOper := [⟨.mv (.tmp 3), none, (some 53), [3]⟩,
  ⟨.faddr 0 (.tmp 5), none, (some 54), [5]⟩,
  ⟨.load none (.tmp 54), none, (some 55), [54]⟩,
  ⟨.mupd 2 (.tmp 53) (.tmp 55) (.lit (.bool true)), none, none, [53, 55]⟩]
def m15r10 : List MOper := [⟨.mv (.tmp 4), none, (some 56), [4]⟩,
  ⟨.bin .eql .other (.tmp 56) (.lit (.int .i64 0)), none, (some 57), [56]⟩]
def m15r11 : List MOper := [⟨.faddr 0 (.tmp 1), none, (some 58), [1]⟩,
  ⟨.load none (.tmp 58), none, (some 59), [58]⟩,
  ⟨.mv (.tmp 4), none, (some 60), [4]⟩,
  ⟨.bin .sub .other (.tmp 60) (.lit (.int .i64 1)), none, (some 61), [60]⟩,
  ⟨.iaddr 4 (.tmp 59) (.tmp 61), none, (some 62), [59, 61]⟩,
  ⟨.load (some 4) (.tmp 62), none, (some 63), [62]⟩,
  ⟨.zbox [(.str []), (.int .i64 0), (.int .u8 0), (.int .i64 0)], none, (some 6), []⟩,
  ⟨.store 4 (.tmp 6) (.tmp 63), none, none, [6, 63]⟩]
def m15r12 : List MOper := [⟨.faddr 1 (.tmp 6), none, (some 64), [6]⟩,
  ⟨.load none (.tmp 64), none, (some 65), [64]⟩,
  ⟨.faddr 1 (.tmp 5), none, (some 66), [5]⟩,
  ⟨.load none (.tmp 66), none, (some 67), [66]⟩,
  ⟨.bin .lss .other (.tmp 65) (.tmp 67), none, (some 68), [65, 67]⟩,
  ⟨.mv (.tmp 68), none, (some 69), [68]⟩,
  ⟨.load (some 4) (.tmp 6), (some (69, false)), (some 70), [6]⟩,
  ⟨.call 34 [(.tmp 70)], (some (69, false)), (some 71), [70]⟩,
  ⟨.mv (.tmp 71), (some (69, false)), (some 72), [71]⟩,
  ⟨.load (some 4) (.tmp 5), (some (72, true)), (some 73), [5]⟩,
  ⟨.call 34 [(.tmp 73)], (some (72, true)), (some 74), [73]⟩,
  ⟨.un .not (.tmp 74), (some (72, true)), (some 75), [74]⟩,
  ⟨.pick (.tmp 72) (.tmp 75) (.lit (.bool false)), (some (69, false)), (some 76), [72, 75]⟩,
  ⟨.pick (.tmp 69) (.lit (.bool true)) (.tmp 76), none, (some 77), [69, 76]⟩,
  ⟨.mv (.tmp 77), none, (some 78), [77]⟩,
  ⟨.load (some 4) (.tmp 6), (some (78, false)), (some 79), [6]⟩,
  ⟨.call 34 [(.tmp 79)], (some (78, false)), (some 80), [79]⟩,
  ⟨.un .not (.tmp 80), (some (78, false)), (some 81), [80]⟩,
  ⟨.mv (.tmp 81), (some (78, false)), (some 82), [81]⟩,
  ⟨.load (some 4) (.tmp 5), (some (82, true)), (some 83), [5]⟩,
  ⟨.call 34 [(.tmp 83)], (some (82, true)), (some 84), [83]⟩,
  ⟨.pick (.tmp 82) (.tmp 84) (.lit (.bool false)), (some (78, false)), (some 85), [82, 84]⟩,
  ⟨.mv (.tmp 85), (some (78, false)), (some 86), [85]⟩,
  ⟨.faddr 1 (.tmp 6), (some (86, true)), (some 87), [6]⟩,
  ⟨.load none (.tmp 87), (some (86, true)), (some 88), [87]⟩,
  ⟨.faddr 1 (.tmp 5), (some (86, true)), (some 89), [5]⟩,
  ⟨.load none (.tmp 89), (some (86, true)), (some 90), [89]⟩,
  ⟨.bin .eql .other (.tmp 88) (.tmp 90), (some (86, true)), (some 91), [88, 90]⟩,
  ⟨.pick (.tmp 86) (.tmp 91) (.lit (.bool false)), (some (78, false)), (some 92), [86, 91]⟩,
  ⟨.pick (.tmp 78) (.lit (.bool true)) (.tmp 92), none, (some 93), [78, 92]⟩]
def m15r13 : List MOper := [⟨.mv (.lit (.bool false)), none, (some 2), []⟩]
def m15r14 : List MOper := [⟨.bin .add .other (.tmp 38) (.lit (.int .i64 1)), none, (some 94), [38]⟩,
  ⟨.mv (.tmp 94), none, (some 38), [94]⟩]
def m15l15 : MCode := (.seq (.region m15r5 [1, 3, 36, 37, 38, 39])
  (.seq (.cond (.tmp 39)
  .skip
  (.exit 0))
  (.seq (.block 1 (.seq (.region m15r6 [1, 3, 4, 5, 36, 37, 38])
  (.seq (.seq (.region m15r7 [1, 3, 4, 5, 36, 37, 38, 52])
  (.cond (.tmp 52)
  (.seq (.region m15r8 [2])
  .ret)
  .skip))
  (.seq (.region m15r9 [1, 3, 4, 5, 36, 37, 38])
  (.seq (.seq (.region m15r10 [1, 3, 4, 5, 36, 37, 38, 57])
  (.cond (.tmp 57)
  (.exit 1)
  .skip))
  (.seq (.region m15r11 [1, 3, 5, 6, 36, 37, 38])
  (.seq (.region m15r12 [1, 3, 36, 37, 38, 93])
  (.cond (.tmp 93)
  (.seq (.region m15r13 [2])
  .ret)
  .skip))))))))
  (.region m15r14 [1, 3, 36, 37, 38]))))
def m15r16 : List MOper := [⟨.faddr 1 (.tmp 1), none, (some 95), [1]⟩,
  ⟨.load none (.tmp 95), none, (some 96), [95]⟩,
  ⟨.bin .geq .other (.tmp 96) (.lit (.int .i64 0)), none, (some 97), [96]⟩]
def m15r17 : List MOper := [⟨.faddr 0 (.tmp 1), none, (some 98), [1]⟩,
  ⟨.load none (.tmp 98), none, (some 99), [98]⟩,
  ⟨.faddr 1 (.tmp 1), none, (some 100), [1]⟩,
  ⟨.load none (.tmp 100), none, (some 101), [100]⟩,
  ⟨.iaddr 4 (.tmp 99) (.tmp 101), none, (some 102), [99, 101]⟩,
  ⟨.load (some 4) (.tmp 102), none, (some 103), [102]⟩,
  ⟨.zbox [(.str []), (.int .i64 0), (.int .u8 0), (.int .i64 0)], none, (some 7), []⟩,
  ⟨.store 4 (.tmp 7) (.tmp 103), none, none, [7, 103]⟩]
def m15r18 : List MOper := [⟨.faddr 2 (.tmp 7), none, (some 104), [7]⟩,
  ⟨.load none (.tmp 104), none, (some 105), [104]⟩,
  ⟨.bin .eql .other (.tmp 105) (.lit (.int .u8 5)), none, (some 106), [105]⟩,
  ⟨.mv (.tmp 106), none, (some 107), [106]⟩,
  ⟨.faddr 3 (.tmp 7), (some (107, true)), (some 108), [7]⟩,
  ⟨.load none (.tmp 108), (some (107, true)), (some 109), [108]⟩,
  ⟨.bin .lss .other (.tmp 109) (.lit (.int .i64 300)), (some (107, true)), (some 110), [109]⟩,
  ⟨.pick (.tmp 107) (.tmp 110) (.lit (.bool false)), none, (some 111), [107, 110]⟩,
  ⟨.mv (.tmp 111), none, (some 112), [111]⟩,
  ⟨.faddr 4 (.tmp 1), (some (112, true)), (some 113), [1]⟩,
  ⟨.load none (.tmp 113), (some (112, true)), (some 114), [113]⟩,
  ⟨.pick (.tmp 112) (.tmp 114) (.lit (.bool false)), none, (some 115), [112, 114]⟩,
  ⟨.mv (.tmp 115), none, (some 116), [115]⟩,
  ⟨.faddr 3 (.tmp 1), (some (116, true)), (some 117), [1]⟩,
  ⟨.load none (.tmp 117), (some (116, true)), (some 118), [117]⟩,
  ⟨.pick (.tmp 116) (.tmp 118) (.lit (.bool false)), none, (some 119), [116, 118]⟩,
  ⟨.mv (.tmp 119), none, (some 120), [119]⟩,
  ⟨.faddr 2 (.tmp 1), (some (120, true)), (some 121), [1]⟩,
  ⟨.load none (.tmp 121), (some (120, true)), (some 122), [121]⟩,
  ⟨.un .not (.tmp 122), (some (120, true)), (some 123), [122]⟩,
  ⟨.pick (.tmp 120) (.tmp 123) (.lit (.bool false)), none, (some 124), [120, 123]⟩,
  ⟨.mv (.tmp 124), none, (some 2), [124]⟩]
def m15r19 : List MOper := [⟨.faddr 4 (.tmp 1), none, (some 125), [1]⟩,
  ⟨.load none (.tmp 125), none, (some 126), [125]⟩]
def m15r20 : List MOper := [⟨.faddr 0 (.tmp 1), none, (some 127), [1]⟩,
  ⟨.load none (.tmp 127), none, (some 128), [127]⟩,
  ⟨.call 27 [(.tmp 128), (.lit (.func 35 [] []))], none, (some 129), [128]⟩,
  ⟨.bin .neq .bool (.tmp 126) (.tmp 129), none, (some 130), [126, 129]⟩,
  ⟨.mv (.tmp 130), none, (some 2), [130]⟩]
def m15r21 : List MOper := [⟨.load none (.tmp 125), none, (some 126), [125]⟩]
def m15 : MFunc := ⟨131, [.tmp 2],
  (.seq (.region m15r0 [1])
  (.seq (.seq (.region m15r1 [1, 33])
  (.cond (.tmp 33)
  (.seq (.region m15r2 [2])
  .ret)
  .skip))
  (.seq (.region m15r3 [1, 3])
  (.seq (.seq (.region m15r4 [1, 3, 36, 37, 38])
  (.block 0 (.loop [1, 3, 36, 37, 38] m15l15)))
  (.seq (.seq (.region m15r16 [1, 97])
  (.cond (.tmp 97)
  (.seq (.region m15r17 [1, 7])
  (.seq (.region m15r18 [2])
  .ret))
  .skip))
  (.seq (.dregion m15r19 m15r20 m15r21 [2])
  .ret))))))⟩
def h15 : List RH := [⟨[1], 0, false⟩, ⟨[1, 33], 0, false⟩, ⟨[2], 0, false⟩, ⟨[1, 3], 0, false⟩, ⟨[1, 3, 36, 37, 38], 0, false⟩, ⟨[1, 3, 36, 37, 38], 0, false⟩, ⟨[1, 3, 36, 37, 38, 39], 0, false⟩, ⟨[1, 3, 4, 5, 36, 37, 38], 0, false⟩, ⟨[1, 3, 4, 5, 36, 37, 38, 52], 0, false⟩, ⟨[2], 0, false⟩, ⟨[1, 3, 4, 5, 36, 37, 38], 0, false⟩, ⟨[1, 3, 4, 5, 36, 37, 38, 57], 0, false⟩, ⟨[1, 3, 5, 6, 36, 37, 38], 0, false⟩, ⟨[1, 3, 36, 37, 38, 93], 0, false⟩, ⟨[2], 0, false⟩, ⟨[1, 3, 36, 37, 38], 0, false⟩, ⟨[1, 97], 0, false⟩, ⟨[1, 7], 0, false⟩, ⟨[2], 0, false⟩, ⟨[2], 2, false⟩]
theorem m15_ok : cmpFn Try.prog 15 h15 = some m15 := by kernel_rfl

/- dialtone/fork.Best -/
def m17r0 : List MOper := [⟨.box 5 (.tmp 0), none, (some 1), [0]⟩,
  ⟨.mv (.lit (.int .i64 0)), none, (some 2), []⟩]
def m17r1 : List MOper := [⟨.faddr 2 (.tmp 1), none, (some 8), [1]⟩,
  ⟨.load none (.tmp 8), none, (some 9), [8]⟩]
def m17r2 : List MOper := [⟨.mv (.lit (.int .i64 487)), none, (some 2), []⟩]
def m17r3 : List MOper := [⟨.mv (.lit (.int .i64 480)), none, (some 3), []⟩]
def m17r4 : List MOper := [⟨.mv (.lit (.bool false)), none, (some 4), []⟩]
def m17r5 : List MOper := [⟨.faddr 0 (.tmp 1), none, (some 10), [1]⟩,
  ⟨.load none (.tmp 10), none, (some 11), [10]⟩,
  ⟨.len 1 (.tmp 11), none, (some 12), [11]⟩,
  ⟨.mv (.lit (.int .i64 0)), none, (some 13), []⟩]
def m17r6 : List MOper := [⟨.bin .lss .other (.tmp 13) (.tmp 12), none, (some 14), [13, 12]⟩]
def m17r7 : List MOper := [⟨.iaddr 4 (.tmp 11) (.tmp 13), none, (some 15), [11, 13]⟩,
  ⟨.load (some 4) (.tmp 15), none, (some 16), [15]⟩,
  ⟨.zbox [(.str []), (.int .i64 0), (.int .u8 0), (.int .i64 0)], none, (some 6), []⟩,
  ⟨.store 4 (.tmp 6) (.tmp 16), none, none, [6, 16]⟩]
def m17r8 : List MOper := [⟨.faddr 3 (.tmp 6), none, (some 17), [6]⟩,
  ⟨.load none (.tmp 17), none, (some 18), [17]⟩,
  ⟨.mv (.tmp 18), none, (some 7), [18]⟩]
def m17r9 : List MOper := [⟨.mv (.tmp 7), none, (some 19), [7]⟩,
  ⟨.bin .eql .other (.tmp 19) (.lit (.int .i64 503)), none, (some 20), [19]⟩]
def m17r10 : List MOper := [⟨.mv (.lit (.int .i64 500)), none, (some 7), []⟩]
def m17r11 : List MOper := [⟨.faddr 2 (.tmp 6), none, (some 22), [6]⟩,
  ⟨.load none (.tmp 22), none, (some 23), [22]⟩,
  ⟨.bin .neq .other (.tmp 23) (.lit (.int .u8 5)), none, (some 24), [23]⟩,
  ⟨.mv (.tmp 24), none, (some 21), [24]⟩]
def m17r12 : List MOper := [⟨.mv (.tmp 4), none, (some 26), [4]⟩,
  ⟨.un .not (.tmp 26), none, (some 27), [26]⟩,
  ⟨.mv (.tmp 27), none, (some 25), [27]⟩]
def m17r13 : List MOper := [⟨.mv (.tmp 7), none, (some 28), [7]⟩,
  ⟨.bin .geq .other (.tmp 28) (.lit (.int .i64 600)), none, (some 29), [28]⟩,
  ⟨.mv (.tmp 29), none, (some 30), [29]⟩,
  ⟨.mv (.tmp 3), (some (30, true)), (some 31), [3]⟩,
  ⟨.bin .lss .other (.tmp 31) (.lit (.int .i64 600)), (some (30, true)), (some 32), [31]⟩,
  ⟨.pick (.tmp 30) (.tmp 32) (.lit (.bool false)), none, (some 33), [30, 32]⟩,
  ⟨.mv (.tmp 33), none, (some 25), [33]⟩]
def m17r14 : List MOper := [⟨.mv (.tmp 7), none, (some 34), [7]⟩,
  ⟨.mv (.tmp 3), none, (some 35), [3]⟩,
  ⟨.bin .lss .other (.tmp 34) (.tmp 35), none, (some 36), [34, 35]⟩,
  ⟨.mv (.tmp 36), none, (some 37), [36]⟩,
  ⟨.mv (.tmp 7), (some (37, true)), (some 38), [7]⟩,
  ⟨.bin .geq .other (.tmp 38) (.lit (.int .i64 600)), (some (37, true)), (some 39), [38]⟩,
  ⟨.mv (.tmp 3), (some (37, true)), (some 40), [3]⟩,
  ⟨.bin .geq .other (.tmp 40) (.lit (.int .i64 600)), (some (37, true)), (some 41), [40]⟩,
  ⟨.bin .eql .bool (.tmp 39) (.tmp 41), (some (37, true)), (some 42), [39, 41]⟩,
  ⟨.pick (.tmp 37) (.tmp 42) (.lit (.bool false)), none, (some 43), [37, 42]⟩,
  ⟨.mv (.tmp 43), none, (some 25), [43]⟩]
def m17r15 : List MOper := [⟨.mv (.tmp 7), none, (some 44), [7]⟩,
  ⟨.mv (.tmp 44), none, (some 3), [44]⟩,
  ⟨.mv (.lit (.bool true)), none, (some 4), []⟩]
def m17r16 : List MOper := [⟨.bin .add .other (.tmp 13) (.lit (.int .i64 1)), none, (some 45), [13]⟩,
  ⟨.mv (.tmp 45), none, (some 13), [45]⟩]
def m17l17 : MCode := (.seq (.region m17r6 [3, 4, 11, 12, 13, 14])
  (.seq (.cond (.tmp 14)
  .skip
  (.exit 0))
  (.seq (.block 1 (.seq (.region m17r7 [3, 4, 6, 11, 12, 13])
  (.seq (.region m17r8 [3, 4, 6, 7, 11, 12, 13])
  (.seq (.seq (.region m17r9 [3, 4, 6, 7, 11, 12, 13, 20])
  (.cond (.tmp 20)
  (.region m17r10 [3, 4, 6, 7, 11, 12, 13])
  .skip))
  (.block 2 (.seq (.region m17r11 [3, 4, 7, 11, 12, 13, 21])
  (.cond (.tmp 21)
  .skip
  (.seq (.seq (.region m17r12 [3, 4, 7, 11, 12, 13, 25])
  (.cond (.tmp 25)
  .skip
  (.seq (.region m17r13 [3, 4, 7, 11, 12, 13, 25])
  (.cond (.tmp 25)
  .skip
  (.region m17r14 [3, 4, 7, 11, 12, 13, 25])))))
  (.cond (.tmp 25)
  (.region m17r15 [3, 4, 11, 12, 13])
  .skip)))))))))
  (.region m17r16 [3, 4, 11, 12, 13]))))
def m17r18 : List MOper := [⟨.mv (.tmp 3), none, (some 46), [3]⟩,
  ⟨.mv (.tmp 46), none, (some 2), [46]⟩]
def m17 : MFunc := ⟨47, [.tmp 2],
  (.seq (.region m17r0 [1])
  (.seq (.seq (.region m17r1 [1, 9])
  (.cond (.tmp 9)
  (.seq (.region m17r2 [2])
  .ret)
  .skip))
  (.seq (.region m17r3 [1, 3])
  (.seq (.region m17r4 [1, 3, 4])
  (.seq (.seq (.region m17r5 [3, 4, 11, 12, 13])
  (.block 0 (.loop [3, 4, 11, 12, 13] m17l17)))
  (.seq (.region m17r18 [2])
  .ret))))))⟩
def h17 : List RH := [⟨[1], 0, false⟩, ⟨[1, 9], 0, false⟩, ⟨[2], 0, false⟩, ⟨[1, 3], 0, false⟩, ⟨[1, 3, 4], 0, false⟩, ⟨[3, 4, 11, 12, 13], 0, false⟩, ⟨[3, 4, 11, 12, 13], 0, false⟩, ⟨[3, 4, 11, 12, 13, 14], 0, false⟩, ⟨[3, 4, 6, 11, 12, 13], 0, false⟩, ⟨[3, 4, 6, 7, 11, 12, 13], 0, false⟩, ⟨[3, 4, 6, 7, 11, 12, 13, 20], 0, false⟩, ⟨[3, 4, 6, 7, 11, 12, 13], 0, false⟩, ⟨[3, 4, 7, 11, 12, 13, 21], 0, false⟩, ⟨[3, 4, 7, 11, 12, 13, 25], 0, false⟩, ⟨[3, 4, 7, 11, 12, 13, 25], 0, false⟩, ⟨[3, 4, 7, 11, 12, 13, 25], 0, false⟩, ⟨[3, 4, 11, 12, 13], 0, false⟩, ⟨[3, 4, 11, 12, 13], 0, false⟩, ⟨[2], 0, false⟩]
theorem m17_ok : cmpFn Try.prog 17 h17 = some m17 := by kernel_rfl

/- dialtone/dialtonelaw23.live -/
def m19r0 : List MOper := [⟨.mv (.lit (.bool false)), none, (some 0), []⟩]
def m19r1 : List MOper := [⟨.mkfrz [(.int .i64 0)] 3 [(0, (.lit (.int .i64 500))), (1, (.lit (.int .i64 900))), (2, (.lit (.int .i64 900)))], none, (some 5), []⟩,
  ⟨.call 26 [(.tmp 5)], none, (some 6), [5]⟩,
  ⟨.call 11 [(.tmp 6)], none, (some 7), [6]⟩,
  ⟨.mv (.tmp 7), none, (some 4), [7]⟩,
  ⟨.ext 0 (.tmp 4), none, (some 8), [4]⟩,
  ⟨.ext 1 (.tmp 4), none, (some 9), [4]⟩,
  ⟨.ext 2 (.tmp 4), none, (some 10), [4]⟩,
  ⟨.zbox [.nils, (.int .i64 0), (.bool false), (.bool false), (.bool false)], none, (some 1), []⟩,
  ⟨.store 5 (.tmp 1) (.tmp 8), none, none, [1, 8]⟩,
  ⟨.mv (.tmp 9), none, (some 2), [9]⟩,
  ⟨.mv (.tmp 10), none, (some 3), [10]⟩]
def m19r2 : List MOper := [⟨.mv (.tmp 3), none, (some 11), [3]⟩,
  ⟨.bin .neq .other (.tmp 11) (.lit (.int .u8 0)), none, (some 12), [11]⟩,
  ⟨.mv (.tmp 12), none, (some 13), [12]⟩,
  ⟨.mv (.tmp 2), (some (13, false)), (some 14), [2]⟩,
  ⟨.build [(.int .u8 0), (.int .i64 0), (.int .i64 0)] [(0, 1, (.lit (.int .u8 1)))], (some (13, false)), (some 15), []⟩,
  ⟨.build [(.int .u8 0), (.int .i64 0), (.int .i64 0)] [(0, 1, (.lit (.int .u8 1))), (1, 1, (.lit (.int .i64 1)))], (some (13, false)), (some 16), []⟩,
  ⟨.mkfrz [(.int .u8 0), (.int .i64 0), (.int .i64 0)] 2 [(0, (.tmp 15)), (1, (.tmp 16))], (some (13, false)), (some 17), [15, 16]⟩,
  ⟨.call 14 [(.tmp 14), (.tmp 17)], (some (13, false)), (some 18), [14, 17]⟩,
  ⟨.un .not (.tmp 18), (some (13, false)), (some 19), [18]⟩,
  ⟨.pick (.tmp 13) (.lit (.bool true)) (.tmp 19), none, (some 20), [13, 19]⟩]
def m19r3 : List MOper := [⟨.mv (.lit (.bool false)), none, (some 0), []⟩]
def m19r4 : List MOper := [⟨.load (some 5) (.tmp 1), none, (some 22), [1]⟩,
  ⟨.build [(.int .u8 0), (.int .i64 0), (.int .i64 0)] [(0, 1, (.lit (.int .u8 1))), (2, 1, (.lit (.int .i64 180)))], none, (some 23), []⟩,
  ⟨.call 20 [(.tmp 22), (.tmp 23)], none, (some 24), [22, 23]⟩,
  ⟨.mv (.tmp 24), none, (some 21), [24]⟩,
  ⟨.ext 0 (.tmp 21), none, (some 25), [21]⟩,
  ⟨.ext 1 (.tmp 21), none, (some 26), [21]⟩,
  ⟨.ext 2 (.tmp 21), none, (some 27), [21]⟩,
  ⟨.store 5 (.tmp 1) (.tmp 25), none, none, [1, 25]⟩,
  ⟨.mv (.tmp 26), none, (some 2), [26]⟩,
  ⟨.mv (.tmp 27), none, (some 3), [27]⟩]
def m19r5 : List MOper := [⟨.mv (.tmp 3), none, (some 28), [3]⟩,
  ⟨.bin .neq .other (.tmp 28) (.lit (.int .u8 0)), none, (some 29), [28]⟩,
  ⟨.mv (.tmp 29), none, (some 30), [29]⟩,
  ⟨.mv (.tmp 2), (some (30, false)), (some 31), [2]⟩,
  ⟨.build [(.int .u8 0), (.int .i64 0), (.int .i64 0)] [(0, 1, (.lit (.int .u8 3))), (2, 1, (.lit (.int .i64 180)))], (some (30, false)), (some 32), []⟩,
  ⟨.mkfrz [(.int .u8 0), (.int .i64 0), (.int .i64 0)] 1 [(0, (.tmp 32))], (some (30, false)), (some 33), [32]⟩,
  ⟨.call 14 [(.tmp 31), (.tmp 33)], (some (30, false)), (some 34), [31, 33]⟩,
  ⟨.un .not (.tmp 34), (some (30, false)), (some 35), [34]⟩,
  ⟨.pick (.tmp 30) (.lit (.bool true)) (.tmp 35), none, (some 36), [30, 35]⟩]
def m19r6 : List MOper := [⟨.mv (.lit (.bool false)), none, (some 0), []⟩]
def m19r7 : List MOper := [⟨.load (some 5) (.tmp 1), none, (some 38), [1]⟩,
  ⟨.build [(.int .u8 0), (.int .i64 0), (.int .i64 0)] [(0, 1, (.lit (.int .u8 2))), (1, 1, (.lit (.int .i64 1))), (2, 1, (.lit (.int .i64 200)))], none, (some 39), []⟩,
  ⟨.call 20 [(.tmp 38), (.tmp 39)], none, (some 40), [38, 39]⟩,
  ⟨.mv (.tmp 40), none, (some 37), [40]⟩,
  ⟨.ext 0 (.tmp 37), none, (some 41), [37]⟩,
  ⟨.ext 1 (.tmp 37), none, (some 42), [37]⟩,
  ⟨.ext 2 (.tmp 37), none, (some 43), [37]⟩,
  ⟨.store 5 (.tmp 1) (.tmp 41), none, none, [1, 41]⟩,
  ⟨.mv (.tmp 42), none, (some 2), [42]⟩,
  ⟨.mv (.tmp 43), none, (some 3), [43]⟩]
def m19r8 : List MOper := [⟨.mv (.tmp 3), none, (some 44), [3]⟩,
  ⟨.bin .eql .other (.tmp 44) (.lit (.int .u8 0)), none, (some 45), [44]⟩,
  ⟨.mv (.tmp 45), none, (some 46), [45]⟩,
  ⟨.faddr 1 (.tmp 1), (some (46, true)), (some 47), [1]⟩,
  ⟨.load none (.tmp 47), (some (46, true)), (some 48), [47]⟩,
  ⟨.bin .eql .other (.tmp 48) (.lit (.int .i64 1)), (some (46, true)), (some 49), [48]⟩,
  ⟨.pick (.tmp 46) (.tmp 49) (.lit (.bool false)), none, (some 50), [46, 49]⟩,
  ⟨.mv (.tmp 50), none, (some 51), [50]⟩,
  ⟨.mv (.tmp 2), (some (51, true)), (some 52), [2]⟩,
  ⟨.build [(.int .u8 0), (.int .i64 0), (.int .i64 0)] [(0, 1, (.lit (.int .u8 4))), (1, 1, (.lit (.int .i64 1))), (2, 1, (.lit (.int .i64 200)))], (some (51, true)), (some 53), []⟩,
  ⟨.build [(.int .u8 0), (.int .i64 0), (.int .i64 0)] [(0, 1, (.lit (.int .u8 2)))], (some (51, true)), (some 54), []⟩,
  ⟨.mkfrz [(.int .u8 0), (.int .i64 0), (.int .i64 0)] 2 [(0, (.tmp 53)), (1, (.tmp 54))], (some (51, true)), (some 55), [53, 54]⟩,
  ⟨.call 14 [(.tmp 52), (.tmp 55)], (some (51, true)), (some 56), [52, 55]⟩,
  ⟨.pick (.tmp 51) (.tmp 56) (.lit (.bool false)), none, (some 57), [51, 56]⟩,
  ⟨.mv (.tmp 57), none, (some 0), [57]⟩]
def m19 : MFunc := ⟨58, [.tmp 0],
  (.seq (.region m19r0 [])
  (.seq (.region m19r1 [1, 2, 3])
  (.seq (.seq (.region m19r2 [1, 20])
  (.cond (.tmp 20)
  (.seq (.region m19r3 [0])
  .ret)
  .skip))
  (.seq (.region m19r4 [1, 2, 3])
  (.seq (.seq (.region m19r5 [1, 36])
  (.cond (.tmp 36)
  (.seq (.region m19r6 [0])
  .ret)
  .skip))
  (.seq (.region m19r7 [1, 2, 3])
  (.seq (.region m19r8 [0])
  .ret)))))))⟩
def h19 : List RH := [⟨[], 0, false⟩, ⟨[1, 2, 3], 0, false⟩, ⟨[1, 20], 0, false⟩, ⟨[0], 0, false⟩, ⟨[1, 2, 3], 0, false⟩, ⟨[1, 36], 0, false⟩, ⟨[0], 0, false⟩, ⟨[1, 2, 3], 0, false⟩, ⟨[0], 0, false⟩]
theorem m19_ok : cmpFn Try.prog 19 h19 = some m19 := by kernel_rfl

/- dialtone/fork.Step -/
def m20r0 : List MOper := [⟨.box 5 (.tmp 0), none, (some 2), [0]⟩,
  ⟨.box 3 (.tmp 1), none, (some 3), [1]⟩,
  ⟨.zbox [.nils, (.int .i64 0), (.bool false), (.bool false), (.bool false)], none, (some 4), []⟩,
  ⟨.mv (.lit .nils), none, (some 5), []⟩,
  ⟨.mv (.lit (.int .u8 0)), none, (some 6), []⟩]
def m20r1 : List MOper := [⟨.load (some 5) (.tmp 2), none, (some 8), [2]⟩,
  ⟨.call 15 [(.tmp 8)], none, (some 9), [8]⟩,
  ⟨.un .not (.tmp 9), none, (some 10), [9]⟩,
  ⟨.mv (.tmp 10), none, (some 11), [10]⟩,
  ⟨.faddr 0 (.tmp 3), (some (11, false)), (some 12), [3]⟩,
  ⟨.load none (.tmp 12), (some (11, false)), (some 13), [12]⟩,
  ⟨.bin .lss .other (.tmp 13) (.lit (.int .u8 1)), (some (11, false)), (some 14), [13]⟩,
  ⟨.pick (.tmp 11) (.lit (.bool true)) (.tmp 14), none, (some 15), [11, 14]⟩,
  ⟨.mv (.tmp 15), none, (some 16), [15]⟩,
  ⟨.faddr 0 (.tmp 3), (some (16, false)), (some 17), [3]⟩,
  ⟨.load none (.tmp 17), (some (16, false)), (some 18), [17]⟩,
  ⟨.bin .gtr .other (.tmp 18) (.lit (.int .u8 4)), (some (16, false)), (some 19), [18]⟩,
  ⟨.pick (.tmp 16) (.lit (.bool true)) (.tmp 19), none, (some 20), [16, 19]⟩]
def m20r2 : List MOper := [⟨.build [.nils, (.int .i64 0), (.bool false), (.bool false), (.bool false)] [], none, (some 21), []⟩,
  ⟨.store 5 (.tmp 4) (.tmp 21), none, none, [4, 21]⟩,
  ⟨.mv (.lit .nils), none, (some 5), []⟩,
  ⟨.mv (.lit (.int .u8 2)), none, (some 6), []⟩]
def m20r3 : List MOper := [⟨.load (some 5) (.tmp 2), none, (some 22), [2]⟩,
  ⟨.build [.nils, (.int .i64 0), (.bool false), (.bool false), (.bool false), .nils] [(0, 5, (.tmp 22))], none, (some 23), [22]⟩,
  ⟨.box 6 (.tmp 23), none, (some 24), [23]⟩,
  ⟨.mv (.tmp 24), none, (some 7), [24]⟩]
def m20r4 : List MOper := [⟨.mv (.tmp 7), none, (some 25), [7]⟩,
  ⟨.faddr 0 (.tmp 2), none, (some 26), [2]⟩,
  ⟨.load none (.tmp 26), none, (some 27), [26]⟩,
  ⟨.call 37 [(.tmp 27)], none, (some 28), [27]⟩,
  ⟨.nilchk (.tmp 25), none, (some 29), [25]⟩,
  ⟨.faddr 0 (.tmp 29), none, (some 30), [29]⟩,
  ⟨.faddr 0 (.tmp 30), none, (some 31), [30]⟩,
  ⟨.store 1 (.tmp 31) (.tmp 28), none, none, [31, 28]⟩]
def m20r5 : List MOper := [⟨.faddr 0 (.tmp 3), none, (some 32), [3]⟩,
  ⟨.load none (.tmp 32), none, (some 33), [32]⟩,
  ⟨.bin .eql .other (.tmp 33) (.lit (.int .u8 4)), none, (some 34), [33]⟩]
def m20r6 : List MOper := [⟨.faddr 4 (.tmp 2), none, (some 35), [2]⟩,
  ⟨.load none (.tmp 35), none, (some 36), [35]⟩,
  ⟨.mv (.tmp 36), none, (some 37), [36]⟩,
  ⟨.faddr 2 (.tmp 2), (some (37, false)), (some 38), [2]⟩,
  ⟨.load none (.tmp 38), (some (37, false)), (some 39), [38]⟩,
  ⟨.pick (.tmp 37) (.lit (.bool true)) (.tmp 39), none, (some 40), [37, 39]⟩]
def m20r7 : List MOper := [⟨.build [.nils, (.int .i64 0), (.bool false), (.bool false), (.bool false)] [], none, (some 41), []⟩,
  ⟨.store 5 (.tmp 4) (.tmp 41), none, none, [4, 41]⟩,
  ⟨.mv (.lit .nils), none, (some 5), []⟩,
  ⟨.mv (.lit (.int .u8 9)), none, (some 6), []⟩]
def m20r8 : List MOper := [⟨.mv (.tmp 7), none, (some 42), [7]⟩,
  ⟨.nilchk (.tmp 42), none, (some 43), [42]⟩,
  ⟨.faddr 0 (.tmp 43), none, (some 44), [43]⟩,
  ⟨.faddr 2 (.tmp 44), none, (some 45), [44]⟩,
  ⟨.store 1 (.tmp 45) (.lit (.bool true)), none, none, [45]⟩]
def m20r9 : List MOper := [⟨.mv (.tmp 7), none, (some 46), [7]⟩,
  ⟨.call 38 [(.tmp 46)], none, (some 47), [46]⟩]
def m20r10 : List MOper := [⟨.mv (.tmp 7), none, (some 48), [7]⟩,
  ⟨.nilchk (.tmp 48), none, (some 49), [48]⟩,
  ⟨.faddr 0 (.tmp 49), none, (some 50), [49]⟩,
  ⟨.load (some 5) (.tmp 50), none, (some 51), [50]⟩,
  ⟨.mv (.tmp 7), none, (some 52), [7]⟩,
  ⟨.nilchk (.tmp 52), none, (some 53), [52]⟩,
  ⟨.faddr 5 (.tmp 53), none, (some 54), [53]⟩,
  ⟨.load none (.tmp 54), none, (some 55), [54]⟩]
def m20r11 : List MOper := [⟨.store 5 (.tmp 4) (.tmp 51), none, none, [4, 51]⟩,
  ⟨.mv (.tmp 55), none, (some 5), [55]⟩,
  ⟨.mv (.lit (.int .u8 0)), none, (some 6), []⟩]
def m20r12 : List MOper := [⟨.load none (.tmp 54), none, (some 55), [54]⟩]
def m20r13 : List MOper := [⟨.faddr 1 (.tmp 3), none, (some 56), [3]⟩,
  ⟨.load none (.tmp 56), none, (some 57), [56]⟩,
  ⟨.bin .lss .other (.tmp 57) (.lit (.int .i64 0)), none, (some 58), [57]⟩,
  ⟨.mv (.tmp 58), none, (some 59), [58]⟩,
  ⟨.faddr 1 (.tmp 3), (some (59, false)), (some 60), [3]⟩,
  ⟨.load none (.tmp 60), (some (59, false)), (some 61), [60]⟩,
  ⟨.faddr 0 (.tmp 2), (some (59, false)), (some 62), [2]⟩,
  ⟨.load none (.tmp 62), (some (59, false)), (some 63), [62]⟩,
  ⟨.len 1 (.tmp 63), (some (59, false)), (some 64), [63]⟩,
  ⟨.bin .geq .other (.tmp 61) (.tmp 64), (some (59, false)), (some 65), [61, 64]⟩,
  ⟨.pick (.tmp 59) (.lit (.bool true)) (.tmp 65), none, (some 66), [59, 65]⟩]
def m20r14 : List MOper := [⟨.build [.nils, (.int .i64 0), (.bool false), (.bool false), (.bool false)] [], none, (some 67), []⟩,
  ⟨.store 5 (.tmp 4) (.tmp 67), none, none, [4, 67]⟩,
  ⟨.mv (.lit .nils), none, (some 5), []⟩,
  ⟨.mv (.lit (.int .u8 2)), none, (some 6), []⟩]
def m20r15 : List MOper := [⟨.faddr 0 (.tmp 3), none, (some 68), [3]⟩,
  ⟨.load none (.tmp 68), none, (some 69), [68]⟩,
  ⟨.bin .eql .other (.tmp 69) (.lit (.int .u8 1)), none, (some 70), [69]⟩,
  ⟨.mv (.tmp 70), none, (some 71), [70]⟩,
  ⟨.faddr 2 (.tmp 3), (some (71, true)), (some 72), [3]⟩,
  ⟨.load none (.tmp 72), (some (71, true)), (some 73), [72]⟩,
  ⟨.bin .quo .other (.tmp 73) (.lit (.int .i64 100)), (some (71, true)), (some 74), [73]⟩,
  ⟨.bin .neq .other (.tmp 74) (.lit (.int .i64 1)), (some (71, true)), (some 75), [74]⟩,
  ⟨.pick (.tmp 71) (.tmp 75) (.lit (.bool false)), none, (some 76), [71, 75]⟩,
  ⟨.mv (.tmp 76), none, (some 77), [76]⟩,
  ⟨.faddr 0 (.tmp 3), (some (77, false)), (some 78), [3]⟩,
  ⟨.load none (.tmp 78), (some (77, false)), (some 79), [78]⟩,
  ⟨.bin .eql .other (.tmp 79) (.lit (.int .u8 2)), (some (77, false)), (some 80), [79]⟩,
  ⟨.mv (.tmp 80), (some (77, false)), (some 81), [80]⟩,
  ⟨.faddr 2 (.tmp 3), (some (81, true)), (some 82), [3]⟩,
  ⟨.load none (.tmp 82), (some (81, true)), (some 83), [82]⟩,
  ⟨.bin .lss .other (.tmp 83) (.lit (.int .i64 200)), (some (81, true)), (some 84), [83]⟩,
  ⟨.mv (.tmp 84), (some (81, true)), (some 85), [84]⟩,
  ⟨.faddr 2 (.tmp 3), (some (85, false)), (some 86), [3]⟩,
  ⟨.load none (.tmp 86), (some (85, false)), (some 87), [86]⟩,
  ⟨.bin .gtr .other (.tmp 87) (.lit (.int .i64 699)), (some (85, false)), (some 88), [87]⟩,
  ⟨.pick (.tmp 85) (.lit (.bool true)) (.tmp 88), (some (81, true)), (some 89), [85, 88]⟩,
  ⟨.pick (.tmp 81) (.tmp 89) (.lit (.bool false)), (some (77, false)), (some 90), [81, 89]⟩,
  ⟨.pick (.tmp 77) (.lit (.bool true)) (.tmp 90), none, (some 91), [77, 90]⟩]
def m20r16 : List MOper := [⟨.build [.nils, (.int .i64 0), (.bool false), (.bool false), (.bool false)] [], none, (some 92), []⟩,
  ⟨.store 5 (.tmp 4) (.tmp 92), none, none, [4, 92]⟩,
  ⟨.mv (.lit .nils), none, (some 5), []⟩,
  ⟨.mv (.lit (.int .u8 2)), none, (some 6), []⟩]
def m20r17 : List MOper := [⟨.faddr 0 (.tmp 2), none, (some 93), [2]⟩,
  ⟨.load none (.tmp 93), none, (some 94), [93]⟩,
  ⟨.faddr 1 (.tmp 3), none, (some 95), [3]⟩,
  ⟨.load none (.tmp 95), none, (some 96), [95]⟩,
  ⟨.iaddr 4 (.tmp 94) (.tmp 96), none, (some 97), [94, 96]⟩,
  ⟨.load (some 4) (.tmp 97), none, (some 98), [97]⟩,
  ⟨.call 35 [(.tmp 98)], none, (some 99), [98]⟩,
  ⟨.un .not (.tmp 99), none, (some 100), [99]⟩]
def m20r18 : List MOper := [⟨.build [.nils, (.int .i64 0), (.bool false), (.bool false), (.bool false)] [], none, (some 101), []⟩,
  ⟨.store 5 (.tmp 4) (.tmp 101), none, none, [4, 101]⟩,
  ⟨.mv (.lit .nils), none, (some 5), []⟩,
  ⟨.mv (.lit (.int .u8 9)), none, (some 6), []⟩]
def m20r19 : List MOper := [⟨.faddr 0 (.tmp 3), none, (some 102), [3]⟩,
  ⟨.load none (.tmp 102), none, (some 103), [102]⟩]
def m20r20 : List MOper := [⟨.bin .eql .other (.tmp 103) (.lit (.int .u8 1)), none, (some 105), [103]⟩,
  ⟨.mv (.tmp 105), none, (some 104), [105]⟩]
def m20r21 : List MOper := [⟨.mv (.tmp 7), none, (some 106), [7]⟩,
  ⟨.faddr 1 (.tmp 3), none, (some 107), [3]⟩,
  ⟨.load none (.tmp 107), none, (some 108), [107]⟩,
  ⟨.faddr 2 (.tmp 3), none, (some 109), [3]⟩,
  ⟨.load none (.tmp 109), none, (some 110), [109]⟩,
  ⟨.call 39 [(.tmp 106), (.tmp 108), (.tmp 110)], none, (some 111), [106, 108, 110]⟩]
def m20r22 : List MOper := [⟨.bin .eql .other (.tmp 103) (.lit (.int .u8 2)), none, (some 113), [103]⟩,
  ⟨.mv (.tmp 113), none, (some 112), [113]⟩]
def m20r23 : List MOper := [⟨.mv (.tmp 7), none, (some 114), [7]⟩,
  ⟨.faddr 1 (.tmp 3), none, (some 115), [3]⟩,
  ⟨.load none (.tmp 115), none, (some 116), [115]⟩,
  ⟨.faddr 2 (.tmp 3), none, (some 117), [3]⟩,
  ⟨.load none (.tmp 117), none, (some 118), [117]⟩,
  ⟨.call 40 [(.tmp 114), (.tmp 116), (.tmp 118)], none, (some 119), [114, 116, 118]⟩]
def m20r24 : List MOper := [⟨.bin .eql .other (.tmp 103) (.lit (.int .u8 3)), none, (some 121), [103]⟩,
  ⟨.mv (.tmp 121), none, (some 120), [121]⟩]
def m20r25 : List MOper := [⟨.mv (.tmp 7), none, (some 122), [7]⟩,
  ⟨.faddr 1 (.tmp 3), none, (some 123), [3]⟩,
  ⟨.load none (.tmp 123), none, (some 124), [123]⟩,
  ⟨.call 40 [(.tmp 122), (.tmp 124), (.lit (.int .i64 408))], none, (some 125), [122, 124]⟩]
def m20r26 : List MOper := [⟨.mv (.tmp 7), none, (some 126), [7]⟩,
  ⟨.nilchk (.tmp 126), none, (some 127), [126]⟩,
  ⟨.faddr 0 (.tmp 127), none, (some 128), [127]⟩,
  ⟨.load (some 5) (.tmp 128), none, (some 129), [128]⟩,
  ⟨.mv (.tmp 7), none, (some 130), [7]⟩,
  ⟨.nilchk (.tmp 130), none, (some 131), [130]⟩,
  ⟨.faddr 5 (.tmp 131), none, (some 132), [131]⟩,
  ⟨.load none (.tmp 132), none, (some 133), [132]⟩]
def m20r27 : List MOper := [⟨.store 5 (.tmp 4) (.tmp 129), none, none, [4, 129]⟩,
  ⟨.mv (.tmp 133), none, (some 5), [133]⟩,
  ⟨.mv (.lit (.int .u8 0)), none, (some 6), []⟩]
def m20r28 : List MOper := [⟨.load none (.tmp 132), none, (some 133), [132]⟩]
def m20 : MFunc := ⟨134, [.cell 4 (some 5), .tmp 5, .tmp 6],
  (.seq (.region m20r0 [2, 3, 4])
  (.seq (.seq (.region m20r1 [2, 3, 4, 20])
  (.cond (.tmp 20)
  (.seq (.region m20r2 [4, 5, 6])
  .ret)
  .skip))
  (.seq (.region m20r3 [2, 3, 4, 7])
  (.seq (.region m20r4 [2, 3, 4, 7])
  (.seq (.seq (.region m20r5 [2, 3, 4, 7, 34])
  (.cond (.tmp 34)
  (.seq (.seq (.region m20r6 [4, 7, 40])
  (.cond (.tmp 40)
  (.seq (.region m20r7 [4, 5, 6])
  .ret)
  .skip))
  (.seq (.region m20r8 [4, 7])
  (.seq (.region m20r9 [4, 7])
  (.seq (.dregion m20r10 m20r11 m20r12 [4, 5, 6])
  .ret))))
  .skip))
  (.seq (.seq (.region m20r13 [2, 3, 4, 7, 66])
  (.cond (.tmp 66)
  (.seq (.region m20r14 [4, 5, 6])
  .ret)
  .skip))
  (.seq (.seq (.region m20r15 [2, 3, 4, 7, 91])
  (.cond (.tmp 91)
  (.seq (.region m20r16 [4, 5, 6])
  .ret)
  .skip))
  (.seq (.seq (.region m20r17 [3, 4, 7, 100])
  (.cond (.tmp 100)
  (.seq (.region m20r18 [4, 5, 6])
  .ret)
  .skip))
  (.seq (.seq (.region m20r19 [3, 4, 7, 103])
  (.block 0 (.seq (.region m20r20 [3, 4, 7, 103, 104])
  (.cond (.tmp 104)
  (.region m20r21 [4, 7])
  (.seq (.region m20r22 [3, 4, 7, 103, 112])
  (.cond (.tmp 112)
  (.region m20r23 [4, 7])
  (.seq (.region m20r24 [3, 4, 7, 120])
  (.cond (.tmp 120)
  (.region m20r25 [4, 7])
  .skip))))))))
  (.seq (.dregion m20r26 m20r27 m20r28 [4, 5, 6])
  .ret))))))))))⟩
def h20 : List RH := [⟨[2, 3, 4], 0, false⟩, ⟨[2, 3, 4, 20], 0, false⟩, ⟨[4, 5, 6], 0, false⟩, ⟨[2, 3, 4, 7], 0, false⟩, ⟨[2, 3, 4, 7], 0, false⟩, ⟨[2, 3, 4, 7, 34], 0, false⟩, ⟨[4, 7, 40], 0, false⟩, ⟨[4, 5, 6], 0, false⟩, ⟨[4, 7], 0, false⟩, ⟨[4, 7], 0, false⟩, ⟨[4, 5, 6], 8, false⟩, ⟨[2, 3, 4, 7, 66], 0, false⟩, ⟨[4, 5, 6], 0, false⟩, ⟨[2, 3, 4, 7, 91], 0, false⟩, ⟨[4, 5, 6], 0, false⟩, ⟨[3, 4, 7, 100], 0, false⟩, ⟨[4, 5, 6], 0, false⟩, ⟨[3, 4, 7, 103], 0, false⟩, ⟨[3, 4, 7, 103, 104], 0, false⟩, ⟨[4, 7], 0, false⟩, ⟨[3, 4, 7, 103, 112], 0, false⟩, ⟨[4, 7], 0, false⟩, ⟨[3, 4, 7, 120], 0, false⟩, ⟨[4, 7], 0, false⟩, ⟨[4, 5, 6], 8, false⟩]
theorem m20_ok : cmpFn Try.prog 20 h20 = some m20 := by kernel_rfl

/- dialtone/dialtonelaw23.targets -/
def m26r0 : List MOper := [⟨.mv (.lit .nils), none, (some 2), []⟩]
def m26r1 : List MOper := [⟨.mv (.lit .nils), none, (some 3), []⟩]
def m26r2 : List MOper := [⟨.mv (.lit (.int .i64 0)), none, (some 4), []⟩]
def m26r3 : List MOper := [⟨.mv (.tmp 4), none, (some 5), [4]⟩,
  ⟨.mv (.tmp 0), none, (some 6), [0]⟩,
  ⟨.len 1 (.tmp 6), none, (some 7), [6]⟩,
  ⟨.bin .lss .other (.tmp 5) (.tmp 7), none, (some 8), [5, 7]⟩,
  ⟨.mv (.tmp 8), none, (some 9), [8]⟩,
  ⟨.mv (.tmp 4), (some (9, true)), (some 10), [4]⟩,
  ⟨.bin .lss .other (.tmp 10) (.lit (.int .i64 26)), (some (9, true)), (some 11), [10]⟩,
  ⟨.pick (.tmp 9) (.tmp 11) (.lit (.bool false)), none, (some 12), [9, 11]⟩]
def m26r4 : List MOper := [⟨.mv (.tmp 3), none, (some 15), [3]⟩,
  ⟨.mv (.tmp 4), none, (some 16), [4]⟩,
  ⟨.bin .add .other (.lit (.int .i64 97)) (.tmp 16), none, (some 17), [16]⟩,
  ⟨.conv .u8 (.tmp 17), none, (some 18), [17]⟩,
  ⟨.mkslice [(.int .u8 0)] 1 [(0, (.tmp 18))], none, (some 19), [18]⟩,
  ⟨.tostr (.tmp 19), none, (some 20), [19]⟩,
  ⟨.mv (.tmp 0), none, (some 21), [0]⟩,
  ⟨.mv (.tmp 4), none, (some 22), [4]⟩,
  ⟨.iaddr 1 (.tmp 21) (.tmp 22), none, (some 23), [21, 22]⟩,
  ⟨.load none (.tmp 23), none, (some 24), [23]⟩]
def m26r5 : List MOper := [⟨.build [(.str []), (.int .i64 0)] [(0, 1, (.tmp 20)), (1, 1, (.tmp 24))], none, (some 25), [20, 24]⟩,
  ⟨.mkfrz [(.str []), (.int .i64 0)] 1 [(0, (.tmp 25))], none, (some 26), [25]⟩,
  ⟨.append 2 24 (.tmp 15) (.tmp 26), none, (some 27), [15, 26]⟩,
  ⟨.mv (.tmp 27), none, (some 3), [27]⟩]
def m26r6 : List MOper := [⟨.mv (.tmp 4), none, (some 13), [4]⟩,
  ⟨.bin .add .other (.tmp 13) (.lit (.int .i64 1)), none, (some 14), [13]⟩,
  ⟨.mv (.tmp 14), none, (some 4), [14]⟩]
def m26l7 : MCode := (.seq (.seq (.region m26r3 [0, 3, 4, 12])
  (.cond (.tmp 12)
  .skip
  (.exit 0)))
  (.seq (.block 1 (.dregion m26r4 m26r5 [] [0, 3, 4]))
  (.region m26r6 [0, 3, 4])))
def m26r8 : List MOper := [⟨.mv (.tmp 3), none, (some 28), [3]⟩,
  ⟨.mv (.tmp 28), none, (some 2), [28]⟩]
def m26 : MFunc := ⟨29, [.tmp 2],
  (.seq (.region m26r0 [0])
  (.seq (.region m26r1 [0, 3])
  (.seq (.seq (.region m26r2 [0, 3, 4])
  (.block 0 (.loop [0, 3, 4] m26l7)))
  (.seq (.region m26r8 [2])
  .ret))))⟩
def h26 : List RH := [⟨[0], 0, false⟩, ⟨[0, 3], 0, false⟩, ⟨[0, 3, 4], 0, false⟩, ⟨[0, 3, 4], 0, false⟩, ⟨[0, 3, 4, 12], 0, false⟩, ⟨[0, 3, 4], 10, false⟩, ⟨[0, 3, 4], 0, false⟩, ⟨[2], 0, false⟩]
theorem m26_ok : cmpFn Try.prog 26 h26 = some m26 := by kernel_rfl

/- slices.ContainsFunc[[]dialtone/api.Branch,dialtone/api.Branch] -/
def m27r0 : List MOper := [⟨.mv (.lit (.bool false)), none, (some 4), []⟩]
def m27r1 : List MOper := [⟨.mv (.tmp 0), none, (some 5), [0]⟩,
  ⟨.mv (.tmp 1), none, (some 6), [1]⟩,
  ⟨.call 47 [(.tmp 5), (.tmp 6)], none, (some 7), [5, 6]⟩,
  ⟨.bin .geq .other (.tmp 7) (.lit (.int .i64 0)), none, (some 8), [7]⟩,
  ⟨.mv (.tmp 8), none, (some 4), [8]⟩]
def m27 : MFunc := ⟨9, [.tmp 4],
  (.seq (.region m27r0 [0, 1])
  (.seq (.region m27r1 [4])
  .ret))⟩
def h27 : List RH := [⟨[0, 1], 0, false⟩, ⟨[4], 0, false⟩]
theorem m27_ok : cmpFn Try.prog 27 h27 = some m27 := by kernel_rfl

/- dialtone/fork.New$1 -/
def m28r0 : List MOper := [⟨.box 4 (.tmp 0), none, (some 2), [0]⟩,
  ⟨.mv (.lit (.bool false)), none, (some 3), []⟩]
def m28r1 : List MOper := [⟨.faddr 0 (.tmp 2), none, (some 4), [2]⟩,
  ⟨.load none (.tmp 4), none, (some 5), [4]⟩,
  ⟨.faddr 0 (.tmp 1), none, (some 6), [1]⟩,
  ⟨.load none (.tmp 6), none, (some 7), [6]⟩,
  ⟨.bin .eql .other (.tmp 5) (.tmp 7), none, (some 8), [5, 7]⟩,
  ⟨.mv (.tmp 8), none, (some 3), [8]⟩]
def m28 : MFunc := ⟨9, [.tmp 3],
  (.seq (.region m28r0 [1, 2])
  (.seq (.region m28r1 [3])
  .ret))⟩
def h28 : List RH := [⟨[1, 2], 0, false⟩, ⟨[3], 0, false⟩]
theorem m28_ok : cmpFn Try.prog 28 h28 = some m28 := by kernel_rfl

/- slices.SortStableFunc[[]dialtone/api.Branch,dialtone/api.Branch] -/
def m29r0 : List MOper := [⟨.mv (.tmp 0), none, (some 4), [0]⟩,
  ⟨.mv (.tmp 0), none, (some 5), [0]⟩,
  ⟨.len 1 (.tmp 5), none, (some 6), [5]⟩,
  ⟨.mv (.tmp 1), none, (some 7), [1]⟩,
  ⟨.call 48 [(.tmp 4), (.tmp 6), (.tmp 7)], none, (some 8), [4, 6, 7]⟩]
def m29 : MFunc := ⟨9, [],
  (.region m29r0 [])⟩
def h29 : List RH := [⟨[], 0, false⟩]
theorem m29_ok : cmpFn Try.prog 29 h29 = some m29 := by kernel_rfl

/- dialtone/fork.New$2 -/
def m30r0 : List MOper := [⟨.box 4 (.tmp 0), none, (some 2), [0]⟩,
  ⟨.box 4 (.tmp 1), none, (some 3), [1]⟩,
  ⟨.mv (.lit (.int .i64 0)), none, (some 4), []⟩]
def m30r1 : List MOper := [⟨.faddr 1 (.tmp 3), none, (some 5), [3]⟩,
  ⟨.load none (.tmp 5), none, (some 6), [5]⟩,
  ⟨.faddr 1 (.tmp 2), none, (some 7), [2]⟩,
  ⟨.load none (.tmp 7), none, (some 8), [7]⟩,
  ⟨.bin .sub .other (.tmp 6) (.tmp 8), none, (some 9), [6, 8]⟩,
  ⟨.mv (.tmp 9), none, (some 4), [9]⟩]
def m30 : MFunc := ⟨10, [.tmp 4],
  (.seq (.region m30r0 [2, 3])
  (.seq (.region m30r1 [4])
  .ret))⟩
def h30 : List RH := [⟨[2, 3], 0, false⟩, ⟨[4], 0, false⟩]
theorem m30_ok : cmpFn Try.prog 30 h30 = some m30 := by kernel_rfl

/- (*dialtone/fork.work).goOn -/
def m31r0 : List MOper := [⟨.mv (.tmp 0), none, (some 6), [0]⟩,
  ⟨.nilchk (.tmp 6), none, (some 7), [6]⟩,
  ⟨.faddr 0 (.tmp 7), none, (some 8), [7]⟩,
  ⟨.faddr 4 (.tmp 8), none, (some 9), [8]⟩,
  ⟨.load none (.tmp 9), none, (some 10), [9]⟩,
  ⟨.mv (.tmp 10), none, (some 11), [10]⟩,
  ⟨.mv (.tmp 0), (some (11, false)), (some 12), [0]⟩,
  ⟨.nilchk (.tmp 12), (some (11, false)), (some 13), [12]⟩,
  ⟨.faddr 0 (.tmp 13), (some (11, false)), (some 14), [13]⟩,
  ⟨.faddr 0 (.tmp 14), (some (11, false)), (some 15), [14]⟩,
  ⟨.load none (.tmp 15), (some (11, false)), (some 16), [15]⟩,
  ⟨.call 27 [(.tmp 16), (.lit (.func 35 [] []))], (some (11, false)), (some 17), [16]⟩,
  ⟨.pick (.tmp 11) (.lit (.bool true)) (.tmp 17), none, (some 18), [11, 17]⟩]
def m31r1 : List MOper := [⟨.mv (.tmp 0), none, (some 19), [0]⟩,
  ⟨.nilchk (.tmp 19), none, (some 20), [19]⟩,
  ⟨.faddr 0 (.tmp 20), none, (some 21), [20]⟩,
  ⟨.faddr 0 (.tmp 21), none, (some 22), [21]⟩,
  ⟨.load none (.tmp 22), none, (some 23), [22]⟩,
  ⟨.call 47 [(.tmp 23), (.lit (.func 49 [] []))], none, (some 24), [23]⟩,
  ⟨.mv (.tmp 24), none, (some 2), [24]⟩]
def m31r2 : List MOper := [⟨.mv (.tmp 0), none, (some 25), [0]⟩,
  ⟨.nilchk (.tmp 25), none, (some 26), [25]⟩,
  ⟨.faddr 0 (.tmp 26), none, (some 27), [26]⟩,
  ⟨.faddr 3 (.tmp 27), none, (some 28), [27]⟩,
  ⟨.load none (.tmp 28), none, (some 29), [28]⟩,
  ⟨.mv (.tmp 29), none, (some 30), [29]⟩,
  ⟨.mv (.tmp 2), (some (30, false)), (some 31), [2]⟩,
  ⟨.bin .lss .other (.tmp 31) (.lit (.int .i64 0)), (some (30, false)), (some 32), [31]⟩,
  ⟨.pick (.tmp 30) (.lit (.bool true)) (.tmp 32), none, (some 33), [30, 32]⟩]
def m31r3 : List MOper := [⟨.mv (.tmp 0), none, (some 34), [0]⟩,
  ⟨.call 50 [(.tmp 34)], none, (some 35), [34]⟩]
def m31r4 : List MOper := [⟨.mv (.tmp 0), none, (some 36), [0]⟩,
  ⟨.nilchk (.tmp 36), none, (some 37), [36]⟩,
  ⟨.faddr 0 (.tmp 37), none, (some 38), [37]⟩,
  ⟨.faddr 4 (.tmp 38), none, (some 39), [38]⟩,
  ⟨.store 1 (.tmp 39) (.lit (.bool true)), none, none, [39]⟩]
def m31r5 : List MOper := [⟨.mv (.tmp 0), none, (some 40), [0]⟩,
  ⟨.mv (.tmp 0), none, (some 41), [0]⟩,
  ⟨.nilchk (.tmp 41), none, (some 42), [41]⟩,
  ⟨.faddr 0 (.tmp 42), none, (some 43), [42]⟩,
  ⟨.load (some 5) (.tmp 43), none, (some 44), [43]⟩,
  ⟨.call 17 [(.tmp 44)], none, (some 45), [44]⟩,
  ⟨.call 51 [(.tmp 40), (.lit (.int .u8 6)), (.lit (.int .i64 (-1))), (.tmp 45)], none, (some 46), [40, 45]⟩]
def m31r6 : List MOper := [⟨.mv (.tmp 0), none, (some 47), [0]⟩,
  ⟨.nilchk (.tmp 47), none, (some 48), [47]⟩,
  ⟨.faddr 0 (.tmp 48), none, (some 49), [48]⟩,
  ⟨.faddr 0 (.tmp 49), none, (some 50), [49]⟩,
  ⟨.load none (.tmp 50), none, (some 51), [50]⟩,
  ⟨.mv (.tmp 2), none, (some 52), [2]⟩,
  ⟨.iaddr 4 (.tmp 51) (.tmp 52), none, (some 53), [51, 52]⟩,
  ⟨.faddr 1 (.tmp 53), none, (some 54), [53]⟩,
  ⟨.load none (.tmp 54), none, (some 55), [54]⟩,
  ⟨.mv (.tmp 55), none, (some 3), [55]⟩]
def m31r7 : List MOper := [⟨.mv (.tmp 0), none, (some 56), [0]⟩,
  ⟨.nilchk (.tmp 56), none, (some 57), [56]⟩,
  ⟨.faddr 0 (.tmp 57), none, (some 58), [57]⟩,
  ⟨.faddr 0 (.tmp 58), none, (some 59), [58]⟩,
  ⟨.load none (.tmp 59), none, (some 60), [59]⟩,
  ⟨.len 1 (.tmp 60), none, (some 61), [60]⟩,
  ⟨.mv (.lit (.int .i64 0)), none, (some 62), []⟩]
def m31r8 : List MOper := [⟨.bin .lss .other (.tmp 62) (.tmp 61), none, (some 63), [62, 61]⟩]
def m31r9 : List MOper := [⟨.mv (.tmp 62), none, (some 64), [62]⟩,
  ⟨.mv (.tmp 64), none, (some 4), [64]⟩]
def m31r10 : List MOper := [⟨.mv (.tmp 0), none, (some 65), [0]⟩,
  ⟨.nilchk (.tmp 65), none, (some 66), [65]⟩,
  ⟨.faddr 0 (.tmp 66), none, (some 67), [66]⟩,
  ⟨.faddr 0 (.tmp 67), none, (some 68), [67]⟩,
  ⟨.load none (.tmp 68), none, (some 69), [68]⟩,
  ⟨.mv (.tmp 4), none, (some 70), [4]⟩,
  ⟨.iaddr 4 (.tmp 69) (.tmp 70), none, (some 71), [69, 70]⟩,
  ⟨.mv (.tmp 71), none, (some 5), [71]⟩]
def m31r11 : List MOper := [⟨.mv (.tmp 5), none, (some 72), [5]⟩,
  ⟨.nilchk (.tmp 72), none, (some 73), [72]⟩,
  ⟨.faddr 2 (.tmp 73), none, (some 74), [73]⟩,
  ⟨.load none (.tmp 74), none, (some 75), [74]⟩,
  ⟨.bin .eql .other (.tmp 75) (.lit (.int .u8 0)), none, (some 76), [75]⟩,
  ⟨.mv (.tmp 76), none, (some 77), [76]⟩,
  ⟨.mv (.tmp 5), (some (77, true)), (some 78), [5]⟩,
  ⟨.nilchk (.tmp 78), (some (77, true)), (some 79), [78]⟩,
  ⟨.faddr 1 (.tmp 79), (some (77, true)), (some 80), [79]⟩,
  ⟨.load none (.tmp 80), (some (77, true)), (some 81), [80]⟩,
  ⟨.mv (.tmp 3), (some (77, true)), (some 82), [3]⟩,
  ⟨.bin .eql .other (.tmp 81) (.tmp 82), (some (77, true)), (some 83), [81, 82]⟩,
  ⟨.pick (.tmp 77) (.tmp 83) (.lit (.bool false)), none, (some 84), [77, 83]⟩]
def m31r12 : List MOper := [⟨.mv (.tmp 5), none, (some 85), [5]⟩,
  ⟨.nilchk (.tmp 85), none, (some 86), [85]⟩,
  ⟨.faddr 2 (.tmp 86), none, (some 87), [86]⟩,
  ⟨.store 1 (.tmp 87) (.lit (.int .u8 1)), none, none, [87]⟩]
def m31r13 : List MOper := [⟨.mv (.tmp 0), none, (some 88), [0]⟩,
  ⟨.mv (.tmp 4), none, (some 89), [4]⟩,
  ⟨.call 51 [(.tmp 88), (.lit (.int .u8 1)), (.tmp 89), (.lit (.int .i64 0))], none, (some 90), [88, 89]⟩]
def m31r14 : List MOper := [⟨.bin .add .other (.tmp 62) (.lit (.int .i64 1)), none, (some 91), [62]⟩,
  ⟨.mv (.tmp 91), none, (some 62), [91]⟩]
def m31l15 : MCode := (.seq (.region m31r8 [0, 3, 61, 62, 63])
  (.seq (.cond (.tmp 63)
  .skip
  (.exit 0))
  (.seq (.block 1 (.seq (.region m31r9 [0, 3, 4, 61, 62])
  (.seq (.region m31r10 [0, 3, 4, 5, 61, 62])
  (.seq (.region m31r11 [0, 3, 4, 5, 61, 62, 84])
  (.cond (.tmp 84)
  (.seq (.region m31r12 [0, 3, 4, 61, 62])
  (.region m31r13 [0, 3, 61, 62]))
  .skip)))))
  (.region m31r14 [0, 3, 61, 62]))))
def m31 : MFunc := ⟨92, [],
  (.seq (.seq (.region m31r0 [0, 18])
  (.cond (.tmp 18)
  .ret
  .skip))
  (.seq (.region m31r1 [0, 2])
  (.seq (.seq (.region m31r2 [0, 2, 33])
  (.cond (.tmp 33)
  (.seq (.region m31r3 [0])
  (.seq (.region m31r4 [0])
  (.seq (.region m31r5 [])
  .ret)))
  .skip))
  (.seq (.region m31r6 [0, 3])
  (.seq (.region m31r7 [0, 3, 61, 62])
  (.block 0 (.loop [0, 3, 61, 62] m31l15)))))))⟩
def h31 : List RH := [⟨[0, 18], 0, false⟩, ⟨[0, 2], 0, false⟩, ⟨[0, 2, 33], 0, false⟩, ⟨[0], 0, false⟩, ⟨[0], 0, false⟩, ⟨[], 0, false⟩, ⟨[0, 3], 0, false⟩, ⟨[0, 3, 61, 62], 0, false⟩, ⟨[0, 3, 61, 62], 0, false⟩, ⟨[0, 3, 61, 62, 63], 0, false⟩, ⟨[0, 3, 4, 61, 62], 0, false⟩, ⟨[0, 3, 4, 5, 61, 62], 0, false⟩, ⟨[0, 3, 4, 5, 61, 62, 84], 0, false⟩, ⟨[0, 3, 4, 61, 62], 0, false⟩, ⟨[0, 3, 61, 62], 0, false⟩, ⟨[0, 3, 61, 62], 0, false⟩]
theorem m31_ok : cmpFn Try.prog 31 h31 = some m31 := by kernel_rfl

/- dialtone/fork.fits -/
def m33r0 : List MOper := [⟨.box 5 (.tmp 0), none, (some 2), [0]⟩,
  ⟨.box 4 (.tmp 1), none, (some 3), [1]⟩,
  ⟨.mv (.lit (.bool false)), none, (some 4), []⟩]
def m33r1 : List MOper := [⟨.faddr 0 (.tmp 3), none, (some 6), [3]⟩,
  ⟨.load none (.tmp 6), none, (some 7), [6]⟩,
  ⟨.bin .eql .other (.tmp 7) (.lit (.str [])), none, (some 8), [7]⟩,
  ⟨.mv (.tmp 8), none, (some 9), [8]⟩,
  ⟨.faddr 1 (.tmp 3), (some (9, false)), (some 10), [3]⟩,
  ⟨.load none (.tmp 10), (some (9, false)), (some 11), [10]⟩,
  ⟨.bin .lss .other (.tmp 11) (.lit (.int .i64 0)), (some (9, false)), (some 12), [11]⟩,
  ⟨.pick (.tmp 9) (.lit (.bool true)) (.tmp 12), none, (some 13), [9, 12]⟩,
  ⟨.mv (.tmp 13), none, (some 14), [13]⟩,
  ⟨.faddr 1 (.tmp 3), (some (14, false)), (some 15), [3]⟩,
  ⟨.load none (.tmp 15), (some (14, false)), (some 16), [15]⟩,
  ⟨.bin .gtr .other (.tmp 16) (.lit (.int .i64 1000)), (some (14, false)), (some 17), [16]⟩,
  ⟨.pick (.tmp 14) (.lit (.bool true)) (.tmp 17), none, (some 18), [14, 17]⟩]
def m33r2 : List MOper := [⟨.mv (.lit (.bool false)), none, (some 4), []⟩]
def m33r3 : List MOper := [⟨.faddr 2 (.tmp 3), none, (some 19), [3]⟩,
  ⟨.load none (.tmp 19), none, (some 20), [19]⟩,
  ⟨.bin .neq .other (.tmp 20) (.lit (.int .u8 5)), none, (some 21), [20]⟩,
  ⟨.mv (.tmp 21), none, (some 22), [21]⟩,
  ⟨.faddr 3 (.tmp 3), (some (22, true)), (some 23), [3]⟩,
  ⟨.load none (.tmp 23), (some (22, true)), (some 24), [23]⟩,
  ⟨.bin .neq .other (.tmp 24) (.lit (.int .i64 0)), (some (22, true)), (some 25), [24]⟩,
  ⟨.pick (.tmp 22) (.tmp 25) (.lit (.bool false)), none, (some 26), [22, 25]⟩]
def m33r4 : List MOper := [⟨.mv (.lit (.bool false)), none, (some 4), []⟩]
def m33r5 : List MOper := [⟨.faddr 2 (.tmp 3), none, (some 27), [3]⟩,
  ⟨.load none (.tmp 27), none, (some 28), [27]⟩]
def m33r6 : List MOper := [⟨.bin .eql .other (.tmp 28) (.lit (.int .u8 0)), none, (some 30), [28]⟩,
  ⟨.mv (.tmp 30), none, (some 29), [30]⟩]
def m33r7 : List MOper := [⟨.faddr 4 (.tmp 2), none, (some 31), [2]⟩,
  ⟨.load none (.tmp 31), none, (some 32), [31]⟩,
  ⟨.un .not (.tmp 32), none, (some 33), [32]⟩,
  ⟨.mv (.tmp 33), none, (some 4), [33]⟩]
def m33r8 : List MOper := [⟨.bin .eql .other (.tmp 28) (.lit (.int .u8 6)), none, (some 35), [28]⟩,
  ⟨.mv (.tmp 35), none, (some 34), [35]⟩]
def m33r9 : List MOper := [⟨.faddr 4 (.tmp 2), none, (some 36), [2]⟩,
  ⟨.load none (.tmp 36), none, (some 37), [36]⟩,
  ⟨.mv (.tmp 37), none, (some 4), [37]⟩]
def m33r10 : List MOper := [⟨.bin .eql .other (.tmp 28) (.lit (.int .u8 1)), none, (some 39), [28]⟩,
  ⟨.mv (.tmp 39), none, (some 38), [39]⟩]
def m33r11 : List MOper := [⟨.bin .eql .other (.tmp 28) (.lit (.int .u8 2)), none, (some 40), [28]⟩,
  ⟨.mv (.tmp 40), none, (some 38), [40]⟩]
def m33r12 : List MOper := [⟨.faddr 3 (.tmp 2), none, (some 41), [2]⟩,
  ⟨.load none (.tmp 41), none, (some 42), [41]⟩,
  ⟨.un .not (.tmp 42), none, (some 43), [42]⟩,
  ⟨.mv (.tmp 43), none, (some 4), [43]⟩]
def m33r13 : List MOper := [⟨.bin .eql .other (.tmp 28) (.lit (.int .u8 3)), none, (some 45), [28]⟩,
  ⟨.mv (.tmp 45), none, (some 44), [45]⟩]
def m33r14 : List MOper := [⟨.bin .eql .other (.tmp 28) (.lit (.int .u8 4)), none, (some 46), [28]⟩,
  ⟨.mv (.tmp 46), none, (some 44), [46]⟩]
def m33r15 : List MOper := [⟨.faddr 3 (.tmp 2), none, (some 47), [2]⟩,
  ⟨.load none (.tmp 47), none, (some 48), [47]⟩,
  ⟨.mv (.tmp 48), none, (some 4), [48]⟩]
def m33r16 : List MOper := [⟨.bin .eql .other (.tmp 28) (.lit (.int .u8 5)), none, (some 50), [28]⟩,
  ⟨.mv (.tmp 50), none, (some 49), [50]⟩]
def m33r17 : List MOper := [⟨.faddr 3 (.tmp 3), none, (some 51), [3]⟩,
  ⟨.load none (.tmp 51), none, (some 52), [51]⟩,
  ⟨.bin .lss .other (.tmp 52) (.lit (.int .i64 300)), none, (some 53), [52]⟩,
  ⟨.mv (.tmp 53), none, (some 5), [53]⟩]
def m33r18 : List MOper := [⟨.faddr 3 (.tmp 3), none, (some 54), [3]⟩,
  ⟨.load none (.tmp 54), none, (some 55), [54]⟩,
  ⟨.bin .geq .other (.tmp 55) (.lit (.int .i64 200)), none, (some 56), [55]⟩,
  ⟨.mv (.tmp 56), none, (some 57), [56]⟩,
  ⟨.faddr 3 (.tmp 3), (some (57, true)), (some 58), [3]⟩,
  ⟨.load none (.tmp 58), (some (57, true)), (some 59), [58]⟩,
  ⟨.bin .leq .other (.tmp 59) (.lit (.int .i64 699)), (some (57, true)), (some 60), [59]⟩,
  ⟨.pick (.tmp 57) (.tmp 60) (.lit (.bool false)), none, (some 61), [57, 60]⟩,
  ⟨.mv (.tmp 61), none, (some 62), [61]⟩,
  ⟨.mv (.tmp 5), (some (62, true)), (some 63), [5]⟩,
  ⟨.un .not (.tmp 63), (some (62, true)), (some 64), [63]⟩,
  ⟨.mv (.tmp 64), (some (62, true)), (some 65), [64]⟩,
  ⟨.faddr 1 (.tmp 2), (some (65, false)), (some 66), [2]⟩,
  ⟨.load none (.tmp 66), (some (65, false)), (some 67), [66]⟩,
  ⟨.bin .geq .other (.tmp 67) (.lit (.int .i64 0)), (some (65, false)), (some 68), [67]⟩,
  ⟨.pick (.tmp 65) (.lit (.bool true)) (.tmp 68), (some (62, true)), (some 69), [65, 68]⟩,
  ⟨.mv (.tmp 69), (some (62, true)), (some 70), [69]⟩,
  ⟨.faddr 2 (.tmp 2), (some (70, false)), (some 71), [2]⟩,
  ⟨.load none (.tmp 71), (some (70, false)), (some 72), [71]⟩,
  ⟨.pick (.tmp 70) (.lit (.bool true)) (.tmp 72), (some (62, true)), (some 73), [70, 72]⟩,
  ⟨.pick (.tmp 62) (.tmp 73) (.lit (.bool false)), none, (some 74), [62, 73]⟩,
  ⟨.mv (.tmp 74), none, (some 75), [74]⟩,
  ⟨.faddr 3 (.tmp 3), (some (75, true)), (some 76), [3]⟩,
  ⟨.load none (.tmp 76), (some (75, true)), (some 77), [76]⟩,
  ⟨.bin .lss .other (.tmp 77) (.lit (.int .i64 600)), (some (75, true)), (some 78), [77]⟩,
  ⟨.mv (.tmp 78), (some (75, true)), (some 79), [78]⟩,
  ⟨.faddr 3 (.tmp 2), (some (79, false)), (some 80), [2]⟩,
  ⟨.load none (.tmp 80), (some (79, false)), (some 81), [80]⟩,
  ⟨.pick (.tmp 79) (.lit (.bool true)) (.tmp 81), (some (75, true)), (some 82), [79, 81]⟩,
  ⟨.pick (.tmp 75) (.tmp 82) (.lit (.bool false)), none, (some 83), [75, 82]⟩,
  ⟨.mv (.tmp 83), none, (some 4), [83]⟩]
def m33r19 : List MOper := [⟨.mv (.lit (.bool false)), none, (some 4), []⟩]
def m33 : MFunc := ⟨84, [.tmp 4],
  (.seq (.region m33r0 [2, 3])
  (.seq (.seq (.region m33r1 [2, 3, 18])
  (.cond (.tmp 18)
  (.seq (.region m33r2 [4])
  .ret)
  .skip))
  (.seq (.seq (.region m33r3 [2, 3, 26])
  (.cond (.tmp 26)
  (.seq (.region m33r4 [4])
  .ret)
  .skip))
  (.seq (.seq (.region m33r5 [2, 3, 28])
  (.block 0 (.seq (.region m33r6 [2, 3, 28, 29])
  (.cond (.tmp 29)
  (.seq (.region m33r7 [4])
  .ret)
  (.seq (.region m33r8 [2, 3, 28, 34])
  (.cond (.tmp 34)
  (.seq (.region m33r9 [4])
  .ret)
  (.seq (.seq (.region m33r10 [2, 3, 28, 38])
  (.cond (.tmp 38)
  .skip
  (.region m33r11 [2, 3, 28, 38])))
  (.cond (.tmp 38)
  (.seq (.region m33r12 [4])
  .ret)
  (.seq (.seq (.region m33r13 [2, 3, 28, 44])
  (.cond (.tmp 44)
  .skip
  (.region m33r14 [2, 3, 28, 44])))
  (.cond (.tmp 44)
  (.seq (.region m33r15 [4])
  .ret)
  (.seq (.region m33r16 [2, 3, 49])
  (.cond (.tmp 49)
  (.seq (.region m33r17 [2, 3, 5])
  (.seq (.region m33r18 [4])
  .ret))
  .skip))))))))))))
  (.seq (.region m33r19 [4])
  .ret)))))⟩
def h33 : List RH := [⟨[2, 3], 0, false⟩, ⟨[2, 3, 18], 0, false⟩, ⟨[4], 0, false⟩, ⟨[2, 3, 26], 0, false⟩, ⟨[4], 0, false⟩, ⟨[2, 3, 28], 0, false⟩, ⟨[2, 3, 28, 29], 0, false⟩, ⟨[4], 0, false⟩, ⟨[2, 3, 28, 34], 0, false⟩, ⟨[4], 0, false⟩, ⟨[2, 3, 28, 38], 0, false⟩, ⟨[2, 3, 28, 38], 0, false⟩, ⟨[4], 0, false⟩, ⟨[2, 3, 28, 44], 0, false⟩, ⟨[2, 3, 28, 44], 0, false⟩, ⟨[4], 0, false⟩, ⟨[2, 3, 49], 0, false⟩, ⟨[2, 3, 5], 0, false⟩, ⟨[4], 0, false⟩, ⟨[4], 0, false⟩]
theorem m33_ok : cmpFn Try.prog 33 h33 = some m33 := by kernel_rfl

/- dialtone/fork.early -/
def m34r0 : List MOper := [⟨.box 4 (.tmp 0), none, (some 1), [0]⟩,
  ⟨.mv (.lit (.bool false)), none, (some 2), []⟩]
def m34r1 : List MOper := [⟨.faddr 2 (.tmp 1), none, (some 3), [1]⟩,
  ⟨.load none (.tmp 3), none, (some 4), [3]⟩,
  ⟨.bin .eql .other (.tmp 4) (.lit (.int .u8 0)), none, (some 5), [4]⟩,
  ⟨.mv (.tmp 5), none, (some 6), [5]⟩,
  ⟨.faddr 2 (.tmp 1), (some (6, false)), (some 7), [1]⟩,
  ⟨.load none (.tmp 7), (some (6, false)), (some 8), [7]⟩,
  ⟨.bin .eql .other (.tmp 8) (.lit (.int .u8 6)), (some (6, false)), (some 9), [8]⟩,
  ⟨.pick (.tmp 6) (.lit (.bool true)) (.tmp 9), none, (some 10), [6, 9]⟩,
  ⟨.mv (.tmp 10), none, (some 2), [10]⟩]
def m34 : MFunc := ⟨11, [.tmp 2],
  (.seq (.region m34r0 [1])
  (.seq (.region m34r1 [2])
  .ret))⟩
def h34 : List RH := [⟨[1], 0, false⟩, ⟨[2], 0, false⟩]
theorem m34_ok : cmpFn Try.prog 34 h34 = some m34 := by kernel_rfl

/- dialtone/fork.open -/
def m35r0 : List MOper := [⟨.box 4 (.tmp 0), none, (some 1), [0]⟩,
  ⟨.mv (.lit (.bool false)), none, (some 2), []⟩]
def m35r1 : List MOper := [⟨.faddr 2 (.tmp 1), none, (some 3), [1]⟩,
  ⟨.load none (.tmp 3), none, (some 4), [3]⟩]
def m35r2 : List MOper := [⟨.bin .eql .other (.tmp 4) (.lit (.int .u8 1)), none, (some 6), [4]⟩,
  ⟨.mv (.tmp 6), none, (some 5), [6]⟩]
def m35r3 : List MOper := [⟨.bin .eql .other (.tmp 4) (.lit (.int .u8 2)), none, (some 7), [4]⟩,
  ⟨.mv (.tmp 7), none, (some 5), [7]⟩]
def m35r4 : List MOper := [⟨.bin .eql .other (.tmp 4) (.lit (.int .u8 3)), none, (some 8), [4]⟩,
  ⟨.mv (.tmp 8), none, (some 5), [8]⟩]
def m35r5 : List MOper := [⟨.bin .eql .other (.tmp 4) (.lit (.int .u8 4)), none, (some 9), [4]⟩,
  ⟨.mv (.tmp 9), none, (some 5), [9]⟩]
def m35r6 : List MOper := [⟨.mv (.lit (.bool true)), none, (some 2), []⟩]
def m35r7 : List MOper := [⟨.mv (.lit (.bool false)), none, (some 2), []⟩]
def m35 : MFunc := ⟨10, [.tmp 2],
  (.seq (.region m35r0 [1])
  (.seq (.seq (.region m35r1 [4])
  (.block 0 (.seq (.seq (.region m35r2 [4, 5])
  (.cond (.tmp 5)
  .skip
  (.seq (.region m35r3 [4, 5])
  (.cond (.tmp 5)
  .skip
  (.seq (.region m35r4 [4, 5])
  (.cond (.tmp 5)
  .skip
  (.region m35r5 [5])))))))
  (.cond (.tmp 5)
  (.seq (.region m35r6 [2])
  .ret)
  .skip))))
  (.seq (.region m35r7 [2])
  .ret)))⟩
def h35 : List RH := [⟨[1], 0, false⟩, ⟨[4], 0, false⟩, ⟨[4, 5], 0, false⟩, ⟨[4, 5], 0, false⟩, ⟨[4, 5], 0, false⟩, ⟨[5], 0, false⟩, ⟨[2], 0, false⟩, ⟨[2], 0, false⟩]
theorem m35_ok : cmpFn Try.prog 35 h35 = some m35 := by kernel_rfl

/- slices.Clone[[]dialtone/api.Branch,dialtone/api.Branch] -/
def m37r0 : List MOper := [⟨.mv (.lit .nils), none, (some 2), []⟩]
def m37r1 : List MOper := [⟨.mv (.tmp 0), none, (some 3), [0]⟩,
  ⟨.bin .eql .slice (.tmp 3) (.lit .nils), none, (some 4), [3]⟩]
def m37r2 : List MOper := [⟨.mv (.lit .nils), none, (some 2), []⟩]
def m37r3 : List MOper := [⟨.mkslice [(.str []), (.int .i64 0), (.int .u8 0), (.int .i64 0)] 0 [], none, (some 5), []⟩,
  ⟨.mv (.tmp 0), none, (some 6), [0]⟩,
  ⟨.append 4 40 (.tmp 5) (.tmp 6), none, (some 7), [5, 6]⟩,
  ⟨.mv (.tmp 7), none, (some 2), [7]⟩]
def m37 : MFunc := ⟨8, [.tmp 2],
  (.seq (.region m37r0 [0])
  (.seq (.seq (.region m37r1 [0, 4])
  (.cond (.tmp 4)
  (.seq (.region m37r2 [2])
  .ret)
  .skip))
  (.seq (.region m37r3 [2])
  .ret)))⟩
def h37 : List RH := [⟨[0], 0, false⟩, ⟨[0, 4], 0, false⟩, ⟨[2], 0, false⟩, ⟨[2], 0, false⟩]
theorem m37_ok : cmpFn Try.prog 37 h37 = some m37 := by kernel_rfl

/- (*dialtone/fork.work).stop -/
def m38r0 : List MOper := [⟨.mv (.tmp 0), none, (some 4), [0]⟩,
  ⟨.nilchk (.tmp 4), none, (some 5), [4]⟩,
  ⟨.faddr 0 (.tmp 5), none, (some 6), [5]⟩,
  ⟨.faddr 3 (.tmp 6), none, (some 7), [6]⟩,
  ⟨.store 1 (.tmp 7) (.lit (.bool true)), none, none, [7]⟩]
def m38r1 : List MOper := [⟨.mv (.tmp 0), none, (some 8), [0]⟩,
  ⟨.nilchk (.tmp 8), none, (some 9), [8]⟩,
  ⟨.faddr 0 (.tmp 9), none, (some 10), [9]⟩,
  ⟨.faddr 0 (.tmp 10), none, (some 11), [10]⟩,
  ⟨.load none (.tmp 11), none, (some 12), [11]⟩,
  ⟨.len 1 (.tmp 12), none, (some 13), [12]⟩,
  ⟨.mv (.lit (.int .i64 0)), none, (some 14), []⟩]
def m38r2 : List MOper := [⟨.bin .lss .other (.tmp 14) (.tmp 13), none, (some 15), [14, 13]⟩]
def m38r3 : List MOper := [⟨.mv (.tmp 14), none, (some 16), [14]⟩,
  ⟨.mv (.tmp 16), none, (some 2), [16]⟩]
def m38r4 : List MOper := [⟨.mv (.tmp 0), none, (some 17), [0]⟩,
  ⟨.nilchk (.tmp 17), none, (some 18), [17]⟩,
  ⟨.faddr 0 (.tmp 18), none, (some 19), [18]⟩,
  ⟨.faddr 0 (.tmp 19), none, (some 20), [19]⟩,
  ⟨.load none (.tmp 20), none, (some 21), [20]⟩,
  ⟨.mv (.tmp 2), none, (some 22), [2]⟩,
  ⟨.iaddr 4 (.tmp 21) (.tmp 22), none, (some 23), [21, 22]⟩,
  ⟨.mv (.tmp 23), none, (some 3), [23]⟩]
def m38r5 : List MOper := [⟨.mv (.tmp 3), none, (some 24), [3]⟩,
  ⟨.nilchk (.tmp 24), none, (some 25), [24]⟩,
  ⟨.faddr 2 (.tmp 25), none, (some 26), [25]⟩,
  ⟨.load none (.tmp 26), none, (some 27), [26]⟩]
def m38r6 : List MOper := [⟨.bin .eql .other (.tmp 27) (.lit (.int .u8 2)), none, (some 29), [27]⟩,
  ⟨.mv (.tmp 29), none, (some 28), [29]⟩]
def m38r7 : List MOper := [⟨.mv (.tmp 3), none, (some 30), [3]⟩,
  ⟨.nilchk (.tmp 30), none, (some 31), [30]⟩,
  ⟨.faddr 2 (.tmp 31), none, (some 32), [31]⟩,
  ⟨.store 1 (.tmp 32) (.lit (.int .u8 4)), none, none, [32]⟩]
def m38r8 : List MOper := [⟨.mv (.tmp 0), none, (some 33), [0]⟩,
  ⟨.mv (.tmp 2), none, (some 34), [2]⟩,
  ⟨.call 51 [(.tmp 33), (.lit (.int .u8 2)), (.tmp 34), (.lit (.int .i64 0))], none, (some 35), [33, 34]⟩]
def m38r9 : List MOper := [⟨.bin .eql .other (.tmp 27) (.lit (.int .u8 1)), none, (some 37), [27]⟩,
  ⟨.mv (.tmp 37), none, (some 36), [37]⟩]
def m38r10 : List MOper := [⟨.mv (.tmp 3), none, (some 38), [3]⟩,
  ⟨.nilchk (.tmp 38), none, (some 39), [38]⟩,
  ⟨.faddr 2 (.tmp 39), none, (some 40), [39]⟩,
  ⟨.store 1 (.tmp 40) (.lit (.int .u8 3)), none, none, [40]⟩]
def m38r11 : List MOper := [⟨.bin .add .other (.tmp 14) (.lit (.int .i64 1)), none, (some 41), [14]⟩,
  ⟨.mv (.tmp 41), none, (some 14), [41]⟩]
def m38l12 : MCode := (.seq (.region m38r2 [0, 13, 14, 15])
  (.seq (.cond (.tmp 15)
  .skip
  (.exit 0))
  (.seq (.block 1 (.seq (.region m38r3 [0, 2, 13, 14])
  (.seq (.region m38r4 [0, 2, 3, 13, 14])
  (.seq (.region m38r5 [0, 2, 3, 13, 14, 27])
  (.block 2 (.seq (.region m38r6 [0, 2, 3, 13, 14, 27, 28])
  (.cond (.tmp 28)
  (.seq (.region m38r7 [0, 2, 13, 14])
  (.region m38r8 [0, 13, 14]))
  (.seq (.region m38r9 [0, 3, 13, 14, 36])
  (.cond (.tmp 36)
  (.region m38r10 [0, 13, 14])
  .skip)))))))))
  (.region m38r11 [0, 13, 14]))))
def m38 : MFunc := ⟨42, [],
  (.seq (.region m38r0 [0])
  (.seq (.region m38r1 [0, 13, 14])
  (.block 0 (.loop [0, 13, 14] m38l12))))⟩
def h38 : List RH := [⟨[0], 0, false⟩, ⟨[0, 13, 14], 0, false⟩, ⟨[0, 13, 14], 0, false⟩, ⟨[0, 13, 14, 15], 0, false⟩, ⟨[0, 2, 13, 14], 0, false⟩, ⟨[0, 2, 3, 13, 14], 0, false⟩, ⟨[0, 2, 3, 13, 14, 27], 0, false⟩, ⟨[0, 2, 3, 13, 14, 27, 28], 0, false⟩, ⟨[0, 2, 13, 14], 0, false⟩, ⟨[0, 13, 14], 0, false⟩, ⟨[0, 3, 13, 14, 36], 0, false⟩, ⟨[0, 13, 14], 0, false⟩, ⟨[0, 13, 14], 0, false⟩]
theorem m38_ok : cmpFn Try.prog 38 h38 = some m38 := by kernel_rfl

/- (*dialtone/fork.work).provisional -/
def m39r0 : List MOper := [⟨.mv (.tmp 0), none, (some 7), [0]⟩,
  ⟨.nilchk (.tmp 7), none, (some 8), [7]⟩,
  ⟨.faddr 0 (.tmp 8), none, (some 9), [8]⟩,
  ⟨.faddr 0 (.tmp 9), none, (some 10), [9]⟩,
  ⟨.load none (.tmp 10), none, (some 11), [10]⟩,
  ⟨.mv (.tmp 1), none, (some 12), [1]⟩,
  ⟨.iaddr 4 (.tmp 11) (.tmp 12), none, (some 13), [11, 12]⟩,
  ⟨.mv (.tmp 13), none, (some 6), [13]⟩]
def m39r1 : List MOper := [⟨.mv (.tmp 6), none, (some 14), [6]⟩,
  ⟨.nilchk (.tmp 14), none, (some 15), [14]⟩,
  ⟨.faddr 2 (.tmp 15), none, (some 16), [15]⟩,
  ⟨.load none (.tmp 16), none, (some 17), [16]⟩]
def m39r2 : List MOper := [⟨.bin .eql .other (.tmp 17) (.lit (.int .u8 3)), none, (some 19), [17]⟩,
  ⟨.mv (.tmp 19), none, (some 18), [19]⟩]
def m39r3 : List MOper := [⟨.mv (.tmp 6), none, (some 20), [6]⟩,
  ⟨.nilchk (.tmp 20), none, (some 21), [20]⟩,
  ⟨.faddr 2 (.tmp 21), none, (some 22), [21]⟩,
  ⟨.store 1 (.tmp 22) (.lit (.int .u8 4)), none, none, [22]⟩]
def m39r4 : List MOper := [⟨.mv (.tmp 0), none, (some 23), [0]⟩,
  ⟨.mv (.tmp 1), none, (some 24), [1]⟩,
  ⟨.call 51 [(.tmp 23), (.lit (.int .u8 2)), (.tmp 24), (.lit (.int .i64 0))], none, (some 25), [23, 24]⟩]
def m39r5 : List MOper := [⟨.bin .eql .other (.tmp 17) (.lit (.int .u8 1)), none, (some 27), [17]⟩,
  ⟨.mv (.tmp 27), none, (some 26), [27]⟩]
def m39r6 : List MOper := [⟨.bin .eql .other (.tmp 17) (.lit (.int .u8 2)), none, (some 28), [17]⟩,
  ⟨.mv (.tmp 28), none, (some 26), [28]⟩]
def m39r7 : List MOper := [⟨.mv (.tmp 6), none, (some 29), [6]⟩,
  ⟨.nilchk (.tmp 29), none, (some 30), [29]⟩,
  ⟨.faddr 2 (.tmp 30), none, (some 31), [30]⟩,
  ⟨.store 1 (.tmp 31) (.lit (.int .u8 2)), none, none, [31]⟩]
def m39r8 : List MOper := [⟨.mv (.tmp 2), none, (some 32), [2]⟩,
  ⟨.bin .gtr .other (.tmp 32) (.lit (.int .i64 100)), none, (some 33), [32]⟩]
def m39r9 : List MOper := [⟨.mv (.tmp 0), none, (some 34), [0]⟩,
  ⟨.mv (.tmp 1), none, (some 35), [1]⟩,
  ⟨.mv (.tmp 2), none, (some 36), [2]⟩,
  ⟨.call 51 [(.tmp 34), (.lit (.int .u8 3)), (.tmp 35), (.tmp 36)], none, (some 37), [34, 35, 36]⟩]
def m39 : MFunc := ⟨38, [],
  (.seq (.region m39r0 [0, 1, 2, 6])
  (.seq (.region m39r1 [0, 1, 2, 6, 17])
  (.block 0 (.seq (.region m39r2 [0, 1, 2, 6, 17, 18])
  (.cond (.tmp 18)
  (.seq (.region m39r3 [0, 1])
  (.region m39r4 []))
  (.seq (.seq (.region m39r5 [0, 1, 2, 6, 17, 26])
  (.cond (.tmp 26)
  .skip
  (.region m39r6 [0, 1, 2, 6, 26])))
  (.cond (.tmp 26)
  (.seq (.region m39r7 [0, 1, 2])
  (.seq (.region m39r8 [0, 1, 2, 33])
  (.cond (.tmp 33)
  (.region m39r9 [])
  .skip)))
  .skip)))))))⟩
def h39 : List RH := [⟨[0, 1, 2, 6], 0, false⟩, ⟨[0, 1, 2, 6, 17], 0, false⟩, ⟨[0, 1, 2, 6, 17, 18], 0, false⟩, ⟨[0, 1], 0, false⟩, ⟨[], 0, false⟩, ⟨[0, 1, 2, 6, 17, 26], 0, false⟩, ⟨[0, 1, 2, 6, 26], 0, false⟩, ⟨[0, 1, 2], 0, false⟩, ⟨[0, 1, 2, 33], 0, false⟩, ⟨[], 0, false⟩]
theorem m39_ok : cmpFn Try.prog 39 h39 = some m39 := by kernel_rfl

/- (*dialtone/fork.work).final -/
def m40r0 : List MOper := [⟨.mv (.tmp 0), none, (some 7), [0]⟩,
  ⟨.nilchk (.tmp 7), none, (some 8), [7]⟩,
  ⟨.faddr 0 (.tmp 8), none, (some 9), [8]⟩,
  ⟨.faddr 0 (.tmp 9), none, (some 10), [9]⟩,
  ⟨.load none (.tmp 10), none, (some 11), [10]⟩,
  ⟨.mv (.tmp 1), none, (some 12), [1]⟩,
  ⟨.iaddr 4 (.tmp 11) (.tmp 12), none, (some 13), [11, 12]⟩,
  ⟨.mv (.tmp 13), none, (some 6), [13]⟩]
def m40r1 : List MOper := [⟨.mv (.tmp 6), none, (some 14), [6]⟩,
  ⟨.mv (.tmp 6), none, (some 15), [6]⟩,
  ⟨.mv (.tmp 2), none, (some 16), [2]⟩,
  ⟨.nilchk (.tmp 14), none, (some 17), [14]⟩,
  ⟨.faddr 2 (.tmp 17), none, (some 18), [17]⟩,
  ⟨.store 1 (.tmp 18) (.lit (.int .u8 5)), none, none, [18]⟩,
  ⟨.nilchk (.tmp 15), none, (some 19), [15]⟩,
  ⟨.faddr 3 (.tmp 19), none, (some 20), [19]⟩,
  ⟨.store 1 (.tmp 20) (.tmp 16), none, none, [20, 16]⟩]
def m40r2 : List MOper := [⟨.mv (.tmp 2), none, (some 39), [2]⟩,
  ⟨.bin .geq .other (.tmp 39) (.lit (.int .i64 600)), none, (some 40), [39]⟩,
  ⟨.mv (.tmp 40), none, (some 38), [40]⟩]
def m40r3 : List MOper := [⟨.mv (.tmp 0), none, (some 41), [0]⟩,
  ⟨.call 38 [(.tmp 41)], none, (some 42), [41]⟩]
def m40r4 : List MOper := [⟨.mv (.tmp 2), none, (some 44), [2]⟩,
  ⟨.bin .geq .other (.tmp 44) (.lit (.int .i64 300)), none, (some 45), [44]⟩,
  ⟨.mv (.tmp 45), none, (some 43), [45]⟩]
def m40r5 : List MOper := [⟨.mv (.tmp 0), none, (some 47), [0]⟩,
  ⟨.nilchk (.tmp 47), none, (some 48), [47]⟩,
  ⟨.faddr 0 (.tmp 48), none, (some 49), [48]⟩,
  ⟨.faddr 4 (.tmp 49), none, (some 50), [49]⟩,
  ⟨.load none (.tmp 50), none, (some 51), [50]⟩,
  ⟨.mv (.tmp 51), none, (some 52), [51]⟩,
  ⟨.mv (.tmp 0), (some (52, false)), (some 53), [0]⟩,
  ⟨.nilchk (.tmp 53), (some (52, false)), (some 54), [53]⟩,
  ⟨.faddr 0 (.tmp 54), (some (52, false)), (some 55), [54]⟩,
  ⟨.faddr 2 (.tmp 55), (some (52, false)), (some 56), [55]⟩,
  ⟨.load none (.tmp 56), (some (52, false)), (some 57), [56]⟩,
  ⟨.pick (.tmp 52) (.lit (.bool true)) (.tmp 57), none, (some 58), [52, 57]⟩,
  ⟨.mv (.tmp 58), none, (some 46), [58]⟩]
def m40r6 : List MOper := [⟨.mv (.tmp 0), none, (some 59), [0]⟩,
  ⟨.mv (.tmp 1), none, (some 60), [1]⟩,
  ⟨.mv (.tmp 2), none, (some 61), [2]⟩,
  ⟨.call 51 [(.tmp 59), (.lit (.int .u8 5)), (.tmp 60), (.tmp 61)], none, (some 62), [59, 60, 61]⟩]
def m40r7 : List MOper := [⟨.mv (.tmp 0), none, (some 21), [0]⟩,
  ⟨.mv (.tmp 0), none, (some 22), [0]⟩,
  ⟨.mv (.tmp 1), none, (some 23), [1]⟩,
  ⟨.nilchk (.tmp 21), none, (some 24), [21]⟩,
  ⟨.faddr 0 (.tmp 24), none, (some 25), [24]⟩,
  ⟨.faddr 1 (.tmp 25), none, (some 26), [25]⟩,
  ⟨.store 1 (.tmp 26) (.tmp 23), none, none, [26, 23]⟩,
  ⟨.nilchk (.tmp 22), none, (some 27), [22]⟩,
  ⟨.faddr 0 (.tmp 27), none, (some 28), [27]⟩,
  ⟨.faddr 4 (.tmp 28), none, (some 29), [28]⟩,
  ⟨.store 1 (.tmp 29) (.lit (.bool true)), none, none, [29]⟩]
def m40r8 : List MOper := [⟨.mv (.tmp 0), none, (some 30), [0]⟩,
  ⟨.mv (.tmp 1), none, (some 31), [1]⟩,
  ⟨.mv (.tmp 2), none, (some 32), [2]⟩,
  ⟨.call 51 [(.tmp 30), (.lit (.int .u8 4)), (.tmp 31), (.tmp 32)], none, (some 33), [30, 31, 32]⟩]
def m40r9 : List MOper := [⟨.mv (.tmp 0), none, (some 34), [0]⟩,
  ⟨.call 38 [(.tmp 34)], none, (some 35), [34]⟩]
def m40r10 : List MOper := [⟨.mv (.tmp 0), none, (some 36), [0]⟩,
  ⟨.call 50 [(.tmp 36)], none, (some 37), [36]⟩]
def m40r11 : List MOper := [⟨.mv (.tmp 0), none, (some 63), [0]⟩,
  ⟨.call 31 [(.tmp 63)], none, (some 64), [63]⟩]
def m40 : MFunc := ⟨65, [],
  (.seq (.region m40r0 [0, 1, 2, 6])
  (.seq (.region m40r1 [0, 1, 2])
  (.seq (.block 0 (.seq (.region m40r2 [0, 1, 2, 38])
  (.cond (.tmp 38)
  (.region m40r3 [0])
  (.seq (.region m40r4 [0, 1, 2, 43])
  (.cond (.tmp 43)
  .skip
  (.seq (.region m40r5 [0, 1, 2, 46])
  (.cond (.tmp 46)
  (.region m40r6 [0])
  (.seq (.region m40r7 [0, 1, 2])
  (.seq (.region m40r8 [0])
  (.seq (.region m40r9 [0])
  (.region m40r10 [0])))))))))))
  (.region m40r11 []))))⟩
def h40 : List RH := [⟨[0, 1, 2, 6], 0, false⟩, ⟨[0, 1, 2], 0, false⟩, ⟨[0, 1, 2, 38], 0, false⟩, ⟨[0], 0, false⟩, ⟨[0, 1, 2, 43], 0, false⟩, ⟨[0, 1, 2, 46], 0, false⟩, ⟨[0], 0, false⟩, ⟨[0, 1, 2], 0, false⟩, ⟨[0], 0, false⟩, ⟨[0], 0, false⟩, ⟨[0], 0, false⟩, ⟨[], 0, false⟩]
theorem m40_ok : cmpFn Try.prog 40 h40 = some m40 := by kernel_rfl

/- slices.IndexFunc[[]dialtone/api.Branch,dialtone/api.Branch] -/
def m47r0 : List MOper := [⟨.mv (.lit (.int .i64 0)), none, (some 4), []⟩]
def m47r1 : List MOper := [⟨.mv (.tmp 0), none, (some 6), [0]⟩,
  ⟨.len 1 (.tmp 6), none, (some 7), [6]⟩,
  ⟨.mv (.lit (.int .i64 0)), none, (some 8), []⟩]
def m47r2 : List MOper := [⟨.bin .lss .other (.tmp 8) (.tmp 7), none, (some 9), [8, 7]⟩]
def m47r3 : List MOper := [⟨.mv (.tmp 8), none, (some 10), [8]⟩,
  ⟨.mv (.tmp 10), none, (some 5), [10]⟩]
def m47r4 : List MOper := [⟨.mv (.tmp 1), none, (some 11), [1]⟩,
  ⟨.mv (.tmp 0), none, (some 12), [0]⟩,
  ⟨.mv (.tmp 5), none, (some 13), [5]⟩,
  ⟨.iaddr 4 (.tmp 12) (.tmp 13), none, (some 14), [12, 13]⟩,
  ⟨.load (some 4) (.tmp 14), none, (some 15), [14]⟩,
  ⟨.callv (.tmp 11) [(.tmp 15)], none, (some 16), [11, 15]⟩]
def m47r5 : List MOper := [⟨.mv (.tmp 5), none, (some 17), [5]⟩,
  ⟨.mv (.tmp 17), none, (some 4), [17]⟩]
def m47r6 : List MOper := [⟨.bin .add .other (.tmp 8) (.lit (.int .i64 1)), none, (some 18), [8]⟩,
  ⟨.mv (.tmp 18), none, (some 8), [18]⟩]
def m47l7 : MCode := (.seq (.region m47r2 [0, 1, 7, 8, 9])
  (.seq (.cond (.tmp 9)
  .skip
  (.exit 0))
  (.seq (.block 1 (.seq (.region m47r3 [0, 1, 5, 7, 8])
  (.seq (.region m47r4 [0, 1, 5, 7, 8, 16])
  (.cond (.tmp 16)
  (.seq (.region m47r5 [4])
  .ret)
  .skip))))
  (.region m47r6 [0, 1, 7, 8]))))
def m47r8 : List MOper := [⟨.mv (.lit (.int .i64 (-1))), none, (some 4), []⟩]
def m47 : MFunc := ⟨19, [.tmp 4],
  (.seq (.region m47r0 [0, 1])
  (.seq (.seq (.region m47r1 [0, 1, 7, 8])
  (.block 0 (.loop [0, 1, 7, 8] m47l7)))
  (.seq (.region m47r8 [4])
  .ret)))⟩
def h47 : List RH := [⟨[0, 1], 0, false⟩, ⟨[0, 1, 7, 8], 0, false⟩, ⟨[0, 1, 7, 8], 0, false⟩, ⟨[0, 1, 7, 8, 9], 0, false⟩, ⟨[0, 1, 5, 7, 8], 0, false⟩, ⟨[0, 1, 5, 7, 8, 16], 0, false⟩, ⟨[4], 0, false⟩, ⟨[0, 1, 7, 8], 0, false⟩, ⟨[4], 0, false⟩]
theorem m47_ok : cmpFn Try.prog 47 h47 = some m47 := by kernel_rfl

/- slices.stableCmpFunc[dialtone/api.Branch] -/
def m48r0 : List MOper := [⟨.mv (.lit (.int .i64 20)), none, (some 6), []⟩]
def m48r1 : List MOper := [⟨.mv (.tmp 6), none, (some 10), [6]⟩,
  ⟨.mv (.lit (.int .i64 0)), none, (some 7), []⟩,
  ⟨.mv (.tmp 10), none, (some 8), [10]⟩]
def m48r2 : List MOper := [⟨.mv (.tmp 8), none, (some 11), [8]⟩,
  ⟨.mv (.tmp 1), none, (some 12), [1]⟩,
  ⟨.bin .leq .other (.tmp 11) (.tmp 12), none, (some 13), [11, 12]⟩]
def m48r3 : List MOper := [⟨.mv (.tmp 0), none, (some 14), [0]⟩,
  ⟨.mv (.tmp 7), none, (some 15), [7]⟩,
  ⟨.mv (.tmp 8), none, (some 16), [8]⟩,
  ⟨.mv (.tmp 2), none, (some 17), [2]⟩,
  ⟨.call 56 [(.tmp 14), (.tmp 15), (.tmp 16), (.tmp 17)], none, (some 18), [14, 15, 16, 17]⟩]
def m48r4 : List MOper := [⟨.mv (.tmp 8), none, (some 19), [8]⟩,
  ⟨.mv (.tmp 19), none, (some 7), [19]⟩]
def m48r5 : List MOper := [⟨.mv (.tmp 8), none, (some 20), [8]⟩,
  ⟨.mv (.tmp 6), none, (some 21), [6]⟩,
  ⟨.bin .add .other (.tmp 20) (.tmp 21), none, (some 22), [20, 21]⟩,
  ⟨.mv (.tmp 22), none, (some 8), [22]⟩]
def m48l6 : MCode := (.seq (.seq (.region m48r2 [0, 1, 2, 6, 7, 8, 13])
  (.cond (.tmp 13)
  .skip
  (.exit 0)))
  (.block 1 (.seq (.region m48r3 [0, 1, 2, 6, 8])
  (.seq (.region m48r4 [0, 1, 2, 6, 7, 8])
  (.region m48r5 [0, 1, 2, 6, 7, 8])))))
def m48r7 : List MOper := [⟨.mv (.tmp 0), none, (some 23), [0]⟩,
  ⟨.mv (.tmp 7), none, (some 24), [7]⟩,
  ⟨.mv (.tmp 1), none, (some 25), [1]⟩,
  ⟨.mv (.tmp 2), none, (some 26), [2]⟩,
  ⟨.call 56 [(.tmp 23), (.tmp 24), (.tmp 25), (.tmp 26)], none, (some 27), [23, 24, 25, 26]⟩]
def m48r8 : List MOper := [⟨.mv (.tmp 6), none, (some 28), [6]⟩,
  ⟨.mv (.tmp 1), none, (some 29), [1]⟩,
  ⟨.bin .lss .other (.tmp 28) (.tmp 29), none, (some 30), [28, 29]⟩]
def m48r9 : List MOper := [⟨.mv (.tmp 6), none, (some 31), [6]⟩,
  ⟨.bin .mul .other (.lit (.int .i64 2)) (.tmp 31), none, (some 32), [31]⟩,
  ⟨.mv (.lit (.int .i64 0)), none, (some 7), []⟩,
  ⟨.mv (.tmp 32), none, (some 8), [32]⟩]
def m48r10 : List MOper := [⟨.mv (.tmp 8), none, (some 33), [8]⟩,
  ⟨.mv (.tmp 1), none, (some 34), [1]⟩,
  ⟨.bin .leq .other (.tmp 33) (.tmp 34), none, (some 35), [33, 34]⟩]
def m48r11 : List MOper := [⟨.mv (.tmp 0), none, (some 36), [0]⟩,
  ⟨.mv (.tmp 7), none, (some 37), [7]⟩,
  ⟨.mv (.tmp 7), none, (some 38), [7]⟩,
  ⟨.mv (.tmp 6), none, (some 39), [6]⟩,
  ⟨.bin .add .other (.tmp 38) (.tmp 39), none, (some 40), [38, 39]⟩,
  ⟨.mv (.tmp 8), none, (some 41), [8]⟩,
  ⟨.mv (.tmp 2), none, (some 42), [2]⟩,
  ⟨.call 57 [(.tmp 36), (.tmp 37), (.tmp 40), (.tmp 41), (.tmp 42)], none, (some 43), [36, 37, 40, 41, 42]⟩]
def m48r12 : List MOper := [⟨.mv (.tmp 8), none, (some 44), [8]⟩,
  ⟨.mv (.tmp 44), none, (some 7), [44]⟩]
def m48r13 : List MOper := [⟨.mv (.tmp 8), none, (some 45), [8]⟩,
  ⟨.mv (.tmp 6), none, (some 46), [6]⟩,
  ⟨.bin .mul .other (.lit (.int .i64 2)) (.tmp 46), none, (some 47), [46]⟩,
  ⟨.bin .add .other (.tmp 45) (.tmp 47), none, (some 48), [45, 47]⟩,
  ⟨.mv (.tmp 48), none, (some 8), [48]⟩]
def m48l14 : MCode := (.seq (.seq (.region m48r10 [0, 1, 2, 6, 7, 8, 35])
  (.cond (.tmp 35)
  .skip
  (.exit 4)))
  (.block 5 (.seq (.region m48r11 [0, 1, 2, 6, 8])
  (.seq (.region m48r12 [0, 1, 2, 6, 7, 8])
  (.region m48r13 [0, 1, 2, 6, 7, 8])))))
def m48r15 : List MOper := [⟨.mv (.tmp 7), none, (some 49), [7]⟩,
  ⟨.mv (.tmp 6), none, (some 50), [6]⟩,
  ⟨.bin .add .other (.tmp 49) (.tmp 50), none, (some 51), [49, 50]⟩,
  ⟨.mv (.tmp 51), none, (some 9), [51]⟩]
def m48r16 : List MOper := [⟨.mv (.tmp 9), none, (some 52), [9]⟩,
  ⟨.mv (.tmp 1), none, (some 53), [1]⟩,
  ⟨.bin .lss .other (.tmp 52) (.tmp 53), none, (some 54), [52, 53]⟩]
def m48r17 : List MOper := [⟨.mv (.tmp 0), none, (some 55), [0]⟩,
  ⟨.mv (.tmp 7), none, (some 56), [7]⟩,
  ⟨.mv (.tmp 9), none, (some 57), [9]⟩,
  ⟨.mv (.tmp 1), none, (some 58), [1]⟩,
  ⟨.mv (.tmp 2), none, (some 59), [2]⟩,
  ⟨.call 57 [(.tmp 55), (.tmp 56), (.tmp 57), (.tmp 58), (.tmp 59)], none, (some 60), [55, 56, 57, 58, 59]⟩]
def m48r18 : List MOper := [⟨.mv (.tmp 6), none, (some 61), [6]⟩,
  ⟨.bin .mul .other (.tmp 61) (.lit (.int .i64 2)), none, (some 62), [61]⟩,
  ⟨.mv (.tmp 62), none, (some 6), [62]⟩]
def m48l19 : MCode := (.seq (.seq (.region m48r8 [0, 1, 2, 6, 30])
  (.cond (.tmp 30)
  .skip
  (.exit 2)))
  (.block 3 (.seq (.region m48r9 [0, 1, 2, 6, 7, 8])
  (.seq (.block 4 (.loop [0, 1, 2, 6, 7, 8] m48l14))
  (.seq (.seq (.region m48r15 [0, 1, 2, 6, 7, 9])
  (.seq (.region m48r16 [0, 1, 2, 6, 7, 9, 54])
  (.cond (.tmp 54)
  (.region m48r17 [0, 1, 2, 6])
  .skip)))
  (.region m48r18 [0, 1, 2, 6]))))))
def m48 : MFunc := ⟨63, [],
  (.seq (.region m48r0 [0, 1, 2, 6])
  (.seq (.region m48r1 [0, 1, 2, 6, 7, 8])
  (.seq (.block 0 (.loop [0, 1, 2, 6, 7, 8] m48l6))
  (.seq (.region m48r7 [0, 1, 2, 6])
  (.block 2 (.loop [0, 1, 2, 6] m48l19))))))⟩
def h48 : List RH := [⟨[0, 1, 2, 6], 0, false⟩, ⟨[0, 1, 2, 6, 7, 8], 0, false⟩, ⟨[0, 1, 2, 6, 7, 8], 0, false⟩, ⟨[0, 1, 2, 6, 7, 8, 13], 0, false⟩, ⟨[0, 1, 2, 6, 8], 0, false⟩, ⟨[0, 1, 2, 6, 7, 8], 0, false⟩, ⟨[0, 1, 2, 6, 7, 8], 0, false⟩, ⟨[0, 1, 2, 6], 0, false⟩, ⟨[0, 1, 2, 6], 0, false⟩, ⟨[0, 1, 2, 6, 30], 0, false⟩, ⟨[0, 1, 2, 6, 7, 8], 0, false⟩, ⟨[0, 1, 2, 6, 7, 8], 0, false⟩, ⟨[0, 1, 2, 6, 7, 8, 35], 0, false⟩, ⟨[0, 1, 2, 6, 8], 0, false⟩, ⟨[0, 1, 2, 6, 7, 8], 0, false⟩, ⟨[0, 1, 2, 6, 7, 8], 0, false⟩, ⟨[0, 1, 2, 6, 7, 9], 0, false⟩, ⟨[0, 1, 2, 6, 7, 9, 54], 0, false⟩, ⟨[0, 1, 2, 6], 0, false⟩, ⟨[0, 1, 2, 6], 0, false⟩]
theorem m48_ok : cmpFn Try.prog 48 h48 = some m48 := by kernel_rfl

/- (*dialtone/fork.work).goOn$1 -/
def m49r0 : List MOper := [⟨.box 4 (.tmp 0), none, (some 1), [0]⟩,
  ⟨.mv (.lit (.bool false)), none, (some 2), []⟩]
def m49r1 : List MOper := [⟨.faddr 2 (.tmp 1), none, (some 3), [1]⟩,
  ⟨.load none (.tmp 3), none, (some 4), [3]⟩,
  ⟨.bin .eql .other (.tmp 4) (.lit (.int .u8 0)), none, (some 5), [4]⟩,
  ⟨.mv (.tmp 5), none, (some 2), [5]⟩]
def m49 : MFunc := ⟨6, [.tmp 2],
  (.seq (.region m49r0 [1])
  (.seq (.region m49r1 [2])
  .ret))⟩
def h49 : List RH := [⟨[1], 0, false⟩, ⟨[2], 0, false⟩]
theorem m49_ok : cmpFn Try.prog 49 h49 = some m49 := by kernel_rfl

/- (*dialtone/fork.work).skip -/
def m50r0 : List MOper := [⟨.mv (.tmp 0), none, (some 3), [0]⟩,
  ⟨.nilchk (.tmp 3), none, (some 4), [3]⟩,
  ⟨.faddr 0 (.tmp 4), none, (some 5), [4]⟩,
  ⟨.faddr 0 (.tmp 5), none, (some 6), [5]⟩,
  ⟨.load none (.tmp 6), none, (some 7), [6]⟩,
  ⟨.len 1 (.tmp 7), none, (some 8), [7]⟩,
  ⟨.mv (.lit (.int .i64 0)), none, (some 9), []⟩]
def m50r1 : List MOper := [⟨.bin .lss .other (.tmp 9) (.tmp 8), none, (some 10), [9, 8]⟩]
def m50r2 : List MOper := [⟨.mv (.tmp 9), none, (some 11), [9]⟩,
  ⟨.mv (.tmp 11), none, (some 2), [11]⟩]
def m50r3 : List MOper := [⟨.mv (.tmp 0), none, (some 12), [0]⟩,
  ⟨.nilchk (.tmp 12), none, (some 13), [12]⟩,
  ⟨.faddr 0 (.tmp 13), none, (some 14), [13]⟩,
  ⟨.faddr 0 (.tmp 14), none, (some 15), [14]⟩,
  ⟨.load none (.tmp 15), none, (some 16), [15]⟩,
  ⟨.mv (.tmp 2), none, (some 17), [2]⟩,
  ⟨.iaddr 4 (.tmp 16) (.tmp 17), none, (some 18), [16, 17]⟩,
  ⟨.faddr 2 (.tmp 18), none, (some 19), [18]⟩,
  ⟨.load none (.tmp 19), none, (some 20), [19]⟩,
  ⟨.bin .eql .other (.tmp 20) (.lit (.int .u8 0)), none, (some 21), [20]⟩]
def m50r4 : List MOper := [⟨.mv (.tmp 0), none, (some 22), [0]⟩,
  ⟨.nilchk (.tmp 22), none, (some 23), [22]⟩,
  ⟨.faddr 0 (.tmp 23), none, (some 24), [23]⟩,
  ⟨.faddr 0 (.tmp 24), none, (some 25), [24]⟩,
  ⟨.load none (.tmp 25), none, (some 26), [25]⟩,
  ⟨.mv (.tmp 2), none, (some 27), [2]⟩,
  ⟨.iaddr 4 (.tmp 26) (.tmp 27), none, (some 28), [26, 27]⟩,
  ⟨.faddr 2 (.tmp 28), none, (some 29), [28]⟩,
  ⟨.store 1 (.tmp 29) (.lit (.int .u8 6)), none, none, [29]⟩]
def m50r5 : List MOper := [⟨.bin .add .other (.tmp 9) (.lit (.int .i64 1)), none, (some 30), [9]⟩,
  ⟨.mv (.tmp 30), none, (some 9), [30]⟩]
def m50l6 : MCode := (.seq (.region m50r1 [0, 8, 9, 10])
  (.seq (.cond (.tmp 10)
  .skip
  (.exit 0))
  (.seq (.block 1 (.seq (.region m50r2 [0, 2, 8, 9])
  (.seq (.region m50r3 [0, 2, 8, 9, 21])
  (.cond (.tmp 21)
  (.region m50r4 [0, 8, 9])
  .skip))))
  (.region m50r5 [0, 8, 9]))))
def m50 : MFunc := ⟨31, [],
  (.seq (.region m50r0 [0, 8, 9])
  (.block 0 (.loop [0, 8, 9] m50l6)))⟩
def h50 : List RH := [⟨[0, 8, 9], 0, false⟩, ⟨[0, 8, 9], 0, false⟩, ⟨[0, 8, 9, 10], 0, false⟩, ⟨[0, 2, 8, 9], 0, false⟩, ⟨[0, 2, 8, 9, 21], 0, false⟩, ⟨[0, 8, 9], 0, false⟩, ⟨[0, 8, 9], 0, false⟩]
theorem m50_ok : cmpFn Try.prog 50 h50 = some m50 := by kernel_rfl

/- (*dialtone/fork.work).act -/
def m51r0 : List MOper := [⟨.mv (.tmp 0), none, (some 8), [0]⟩,
  ⟨.mv (.tmp 0), none, (some 9), [0]⟩,
  ⟨.nilchk (.tmp 9), none, (some 10), [9]⟩,
  ⟨.faddr 5 (.tmp 10), none, (some 11), [10]⟩,
  ⟨.load none (.tmp 11), none, (some 12), [11]⟩,
  ⟨.mv (.tmp 1), none, (some 13), [1]⟩,
  ⟨.mv (.tmp 2), none, (some 14), [2]⟩,
  ⟨.mv (.tmp 3), none, (some 15), [3]⟩,
  ⟨.build [(.int .u8 0), (.int .i64 0), (.int .i64 0)] [(0, 1, (.tmp 13)), (1, 1, (.tmp 14)), (2, 1, (.tmp 15))], none, (some 16), [13, 14, 15]⟩,
  ⟨.mkfrz [(.int .u8 0), (.int .i64 0), (.int .i64 0)] 1 [(0, (.tmp 16))], none, (some 17), [16]⟩,
  ⟨.append 3 24 (.tmp 12) (.tmp 17), none, (some 18), [12, 17]⟩,
  ⟨.nilchk (.tmp 8), none, (some 19), [8]⟩,
  ⟨.faddr 5 (.tmp 19), none, (some 20), [19]⟩,
  ⟨.store 1 (.tmp 20) (.tmp 18), none, none, [20, 18]⟩]
def m51 : MFunc := ⟨21, [],
  (.region m51r0 [])⟩
def h51 : List RH := [⟨[], 0, false⟩]
theorem m51_ok : cmpFn Try.prog 51 h51 = some m51 := by kernel_rfl

/- slices.insertionSortCmpFunc[dialtone/api.Branch] -/
def m56r0 : List MOper := [⟨.mv (.tmp 1), none, (some 10), [1]⟩,
  ⟨.bin .add .other (.tmp 10) (.lit (.int .i64 1)), none, (some 11), [10]⟩,
  ⟨.mv (.tmp 11), none, (some 8), [11]⟩]
def m56r1 : List MOper := [⟨.mv (.tmp 8), none, (some 12), [8]⟩,
  ⟨.mv (.tmp 2), none, (some 13), [2]⟩,
  ⟨.bin .lss .other (.tmp 12) (.tmp 13), none, (some 14), [12, 13]⟩]
def m56r2 : List MOper := [⟨.mv (.tmp 8), none, (some 17), [8]⟩,
  ⟨.mv (.tmp 17), none, (some 9), [17]⟩]
def m56r3 : List MOper := [⟨.mv (.tmp 9), none, (some 18), [9]⟩,
  ⟨.mv (.tmp 1), none, (some 19), [1]⟩,
  ⟨.bin .gtr .other (.tmp 18) (.tmp 19), none, (some 20), [18, 19]⟩,
  ⟨.mv (.tmp 20), none, (some 21), [20]⟩,
  ⟨.mv (.tmp 3), (some (21, true)), (some 22), [3]⟩,
  ⟨.mv (.tmp 0), (some (21, true)), (some 23), [0]⟩,
  ⟨.mv (.tmp 9), (some (21, true)), (some 24), [9]⟩,
  ⟨.iaddr 4 (.tmp 23) (.tmp 24), (some (21, true)), (some 25), [23, 24]⟩,
  ⟨.load (some 4) (.tmp 25), (some (21, true)), (some 26), [25]⟩,
  ⟨.mv (.tmp 0), (some (21, true)), (some 27), [0]⟩,
  ⟨.mv (.tmp 9), (some (21, true)), (some 28), [9]⟩,
  ⟨.bin .sub .other (.tmp 28) (.lit (.int .i64 1)), (some (21, true)), (some 29), [28]⟩,
  ⟨.iaddr 4 (.tmp 27) (.tmp 29), (some (21, true)), (some 30), [27, 29]⟩,
  ⟨.load (some 4) (.tmp 30), (some (21, true)), (some 31), [30]⟩]
def m56r4 : List MOper := [⟨.callv (.tmp 22) [(.tmp 26), (.tmp 31)], (some (21, true)), (some 32), [22, 26, 31]⟩,
  ⟨.bin .lss .other (.tmp 32) (.lit (.int .i64 0)), (some (21, true)), (some 33), [32]⟩,
  ⟨.pick (.tmp 21) (.tmp 33) (.lit (.bool false)), none, (some 34), [21, 33]⟩]
def m56r5 : List MOper := [⟨.mv (.tmp 0), none, (some 37), [0]⟩,
  ⟨.mv (.tmp 9), none, (some 38), [9]⟩,
  ⟨.mv (.tmp 0), none, (some 39), [0]⟩,
  ⟨.mv (.tmp 9), none, (some 40), [9]⟩,
  ⟨.bin .sub .other (.tmp 40) (.lit (.int .i64 1)), none, (some 41), [40]⟩,
  ⟨.mv (.tmp 0), none, (some 42), [0]⟩,
  ⟨.mv (.tmp 9), none, (some 43), [9]⟩,
  ⟨.bin .sub .other (.tmp 43) (.lit (.int .i64 1)), none, (some 44), [43]⟩,
  ⟨.iaddr 4 (.tmp 42) (.tmp 44), none, (some 45), [42, 44]⟩,
  ⟨.load (some 4) (.tmp 45), none, (some 46), [45]⟩,
  ⟨.mv (.tmp 0), none, (some 47), [0]⟩,
  ⟨.mv (.tmp 9), none, (some 48), [9]⟩,
  ⟨.iaddr 4 (.tmp 47) (.tmp 48), none, (some 49), [47, 48]⟩,
  ⟨.load (some 4) (.tmp 49), none, (some 50), [49]⟩]
def m56r6 : List MOper := [⟨.iaddr 4 (.tmp 37) (.tmp 38), none, (some 51), [37, 38]⟩,
  ⟨.store 4 (.tmp 51) (.tmp 46), none, none, [51, 46]⟩,
  ⟨.iaddr 4 (.tmp 39) (.tmp 41), none, (some 52), [39, 41]⟩,
  ⟨.store 4 (.tmp 52) (.tmp 50), none, none, [52, 50]⟩]
def m56r7 : List MOper := [⟨.mv (.tmp 9), none, (some 35), [9]⟩,
  ⟨.bin .sub .other (.tmp 35) (.lit (.int .i64 1)), none, (some 36), [35]⟩,
  ⟨.mv (.tmp 36), none, (some 9), [36]⟩]
def m56l8 : MCode := (.seq (.seq (.dregion m56r3 m56r4 [] [0, 1, 2, 3, 8, 9, 34])
  (.cond (.tmp 34)
  .skip
  (.exit 2)))
  (.seq (.block 3 (.dregion m56r5 m56r6 [] [0, 1, 2, 3, 8, 9]))
  (.region m56r7 [0, 1, 2, 3, 8, 9])))
def m56r9 : List MOper := [⟨.mv (.tmp 8), none, (some 15), [8]⟩,
  ⟨.bin .add .other (.tmp 15) (.lit (.int .i64 1)), none, (some 16), [15]⟩,
  ⟨.mv (.tmp 16), none, (some 8), [16]⟩]
def m56l10 : MCode := (.seq (.seq (.region m56r1 [0, 1, 2, 3, 8, 14])
  (.cond (.tmp 14)
  .skip
  (.exit 0)))
  (.seq (.block 1 (.seq (.region m56r2 [0, 1, 2, 3, 8, 9])
  (.block 2 (.loop [0, 1, 2, 3, 8, 9] m56l8))))
  (.region m56r9 [0, 1, 2, 3, 8])))
def m56 : MFunc := ⟨53, [],
  (.seq (.region m56r0 [0, 1, 2, 3, 8])
  (.block 0 (.loop [0, 1, 2, 3, 8] m56l10)))⟩
def h56 : List RH := [⟨[0, 1, 2, 3, 8], 0, false⟩, ⟨[0, 1, 2, 3, 8], 0, false⟩, ⟨[0, 1, 2, 3, 8, 14], 0, false⟩, ⟨[0, 1, 2, 3, 8, 9], 0, false⟩, ⟨[0, 1, 2, 3, 8, 9], 0, false⟩, ⟨[0, 1, 2, 3, 8, 9, 34], 14, false⟩, ⟨[0, 1, 2, 3, 8, 9], 14, false⟩, ⟨[0, 1, 2, 3, 8, 9], 0, false⟩, ⟨[0, 1, 2, 3, 8], 0, false⟩]
theorem m56_ok : cmpFn Try.prog 56 h56 = some m56 := by kernel_rfl

/- slices.symMergeCmpFunc[dialtone/api.Branch] -/
def m57r0 : List MOper := [⟨.mv (.tmp 2), none, (some 25), [2]⟩,
  ⟨.mv (.tmp 1), none, (some 26), [1]⟩,
  ⟨.bin .sub .other (.tmp 25) (.tmp 26), none, (some 27), [25, 26]⟩,
  ⟨.bin .eql .other (.tmp 27) (.lit (.int .i64 1)), none, (some 28), [27]⟩]
def m57r1 : List MOper := [⟨.mv (.tmp 2), none, (some 29), [2]⟩,
  ⟨.mv (.tmp 29), none, (some 10), [29]⟩]
def m57r2 : List MOper := [⟨.mv (.tmp 3), none, (some 30), [3]⟩,
  ⟨.mv (.tmp 30), none, (some 11), [30]⟩]
def m57r3 : List MOper := [⟨.mv (.tmp 10), none, (some 31), [10]⟩,
  ⟨.mv (.tmp 11), none, (some 32), [11]⟩,
  ⟨.bin .lss .other (.tmp 31) (.tmp 32), none, (some 33), [31, 32]⟩]
def m57r4 : List MOper := [⟨.mv (.tmp 10), none, (some 34), [10]⟩,
  ⟨.mv (.tmp 11), none, (some 35), [11]⟩,
  ⟨.bin .add .other (.tmp 34) (.tmp 35), none, (some 36), [34, 35]⟩,
  ⟨.conv .u64 (.tmp 36), none, (some 37), [36]⟩,
  ⟨.bin .shr .other (.tmp 37) (.lit (.int .u64 1)), none, (some 38), [37]⟩,
  ⟨.conv .i64 (.tmp 38), none, (some 39), [38]⟩,
  ⟨.mv (.tmp 39), none, (some 12), [39]⟩]
def m57r5 : List MOper := [⟨.mv (.tmp 4), none, (some 40), [4]⟩,
  ⟨.mv (.tmp 0), none, (some 41), [0]⟩,
  ⟨.mv (.tmp 12), none, (some 42), [12]⟩,
  ⟨.iaddr 4 (.tmp 41) (.tmp 42), none, (some 43), [41, 42]⟩,
  ⟨.load (some 4) (.tmp 43), none, (some 44), [43]⟩,
  ⟨.mv (.tmp 0), none, (some 45), [0]⟩,
  ⟨.mv (.tmp 1), none, (some 46), [1]⟩,
  ⟨.iaddr 4 (.tmp 45) (.tmp 46), none, (some 47), [45, 46]⟩,
  ⟨.load (some 4) (.tmp 47), none, (some 48), [47]⟩]
def m57r6 : List MOper := [⟨.callv (.tmp 40) [(.tmp 44), (.tmp 48)], none, (some 49), [40, 44, 48]⟩,
  ⟨.bin .lss .other (.tmp 49) (.lit (.int .i64 0)), none, (some 50), [49]⟩]
def m57r7 : List MOper := [⟨.mv (.tmp 12), none, (some 51), [12]⟩,
  ⟨.bin .add .other (.tmp 51) (.lit (.int .i64 1)), none, (some 52), [51]⟩,
  ⟨.mv (.tmp 52), none, (some 10), [52]⟩]
def m57r8 : List MOper := [⟨.mv (.tmp 12), none, (some 53), [12]⟩,
  ⟨.mv (.tmp 53), none, (some 11), [53]⟩]
def m57l9 : MCode := (.seq (.seq (.region m57r3 [0, 1, 4, 10, 11, 33])
  (.cond (.tmp 33)
  .skip
  (.exit 0)))
  (.block 1 (.seq (.region m57r4 [0, 1, 4, 10, 11, 12])
  (.seq (.dregion m57r5 m57r6 [] [0, 1, 4, 10, 11, 12, 50])
  (.cond (.tmp 50)
  (.region m57r7 [0, 1, 4, 10, 11])
  (.region m57r8 [0, 1, 4, 10, 11]))))))
def m57r10 : List MOper := [⟨.mv (.tmp 1), none, (some 54), [1]⟩,
  ⟨.mv (.tmp 54), none, (some 13), [54]⟩]
def m57r11 : List MOper := [⟨.mv (.tmp 13), none, (some 55), [13]⟩,
  ⟨.mv (.tmp 10), none, (some 56), [10]⟩,
  ⟨.bin .sub .other (.tmp 56) (.lit (.int .i64 1)), none, (some 57), [56]⟩,
  ⟨.bin .lss .other (.tmp 55) (.tmp 57), none, (some 58), [55, 57]⟩]
def m57r12 : List MOper := [⟨.mv (.tmp 0), none, (some 61), [0]⟩,
  ⟨.mv (.tmp 13), none, (some 62), [13]⟩,
  ⟨.mv (.tmp 0), none, (some 63), [0]⟩,
  ⟨.mv (.tmp 13), none, (some 64), [13]⟩,
  ⟨.bin .add .other (.tmp 64) (.lit (.int .i64 1)), none, (some 65), [64]⟩,
  ⟨.mv (.tmp 0), none, (some 66), [0]⟩,
  ⟨.mv (.tmp 13), none, (some 67), [13]⟩,
  ⟨.bin .add .other (.tmp 67) (.lit (.int .i64 1)), none, (some 68), [67]⟩,
  ⟨.iaddr 4 (.tmp 66) (.tmp 68), none, (some 69), [66, 68]⟩,
  ⟨.load (some 4) (.tmp 69), none, (some 70), [69]⟩,
  ⟨.mv (.tmp 0), none, (some 71), [0]⟩,
  ⟨.mv (.tmp 13), none, (some 72), [13]⟩,
  ⟨.iaddr 4 (.tmp 71) (.tmp 72), none, (some 73), [71, 72]⟩,
  ⟨.load (some 4) (.tmp 73), none, (some 74), [73]⟩]
def m57r13 : List MOper := [⟨.iaddr 4 (.tmp 61) (.tmp 62), none, (some 75), [61, 62]⟩,
  ⟨.store 4 (.tmp 75) (.tmp 70), none, none, [75, 70]⟩,
  ⟨.iaddr 4 (.tmp 63) (.tmp 65), none, (some 76), [63, 65]⟩,
  ⟨.store 4 (.tmp 76) (.tmp 74), none, none, [76, 74]⟩]
def m57r14 : List MOper := [⟨.mv (.tmp 13), none, (some 59), [13]⟩,
  ⟨.bin .add .other (.tmp 59) (.lit (.int .i64 1)), none, (some 60), [59]⟩,
  ⟨.mv (.tmp 60), none, (some 13), [60]⟩]
def m57l15 : MCode := (.seq (.seq (.region m57r11 [0, 10, 13, 58])
  (.cond (.tmp 58)
  .skip
  (.exit 2)))
  (.seq (.block 3 (.dregion m57r12 m57r13 [] [0, 10, 13]))
  (.region m57r14 [0, 10, 13])))
def m57r16 : List MOper := [⟨.mv (.tmp 3), none, (some 77), [3]⟩,
  ⟨.mv (.tmp 2), none, (some 78), [2]⟩,
  ⟨.bin .sub .other (.tmp 77) (.tmp 78), none, (some 79), [77, 78]⟩,
  ⟨.bin .eql .other (.tmp 79) (.lit (.int .i64 1)), none, (some 80), [79]⟩]
def m57r17 : List MOper := [⟨.mv (.tmp 1), none, (some 81), [1]⟩,
  ⟨.mv (.tmp 81), none, (some 14), [81]⟩]
def m57r18 : List MOper := [⟨.mv (.tmp 2), none, (some 82), [2]⟩,
  ⟨.mv (.tmp 82), none, (some 15), [82]⟩]
def m57r19 : List MOper := [⟨.mv (.tmp 14), none, (some 83), [14]⟩,
  ⟨.mv (.tmp 15), none, (some 84), [15]⟩,
  ⟨.bin .lss .other (.tmp 83) (.tmp 84), none, (some 85), [83, 84]⟩]
def m57r20 : List MOper := [⟨.mv (.tmp 14), none, (some 86), [14]⟩,
  ⟨.mv (.tmp 15), none, (some 87), [15]⟩,
  ⟨.bin .add .other (.tmp 86) (.tmp 87), none, (some 88), [86, 87]⟩,
  ⟨.conv .u64 (.tmp 88), none, (some 89), [88]⟩,
  ⟨.bin .shr .other (.tmp 89) (.lit (.int .u64 1)), none, (some 90), [89]⟩,
  ⟨.conv .i64 (.tmp 90), none, (some 91), [90]⟩,
  ⟨.mv (.tmp 91), none, (some 16), [91]⟩]
def m57r21 : List MOper := [⟨.mv (.tmp 4), none, (some 92), [4]⟩,
  ⟨.mv (.tmp 0), none, (some 93), [0]⟩,
  ⟨.mv (.tmp 2), none, (some 94), [2]⟩,
  ⟨.iaddr 4 (.tmp 93) (.tmp 94), none, (some 95), [93, 94]⟩,
  ⟨.load (some 4) (.tmp 95), none, (some 96), [95]⟩,
  ⟨.mv (.tmp 0), none, (some 97), [0]⟩,
  ⟨.mv (.tmp 16), none, (some 98), [16]⟩,
  ⟨.iaddr 4 (.tmp 97) (.tmp 98), none, (some 99), [97, 98]⟩,
  ⟨.load (some 4) (.tmp 99), none, (some 100), [99]⟩]
def m57r22 : List MOper := [⟨.callv (.tmp 92) [(.tmp 96), (.tmp 100)], none, (some 101), [92, 96, 100]⟩,
  ⟨.bin .lss .other (.tmp 101) (.lit (.int .i64 0)), none, (some 102), [101]⟩,
  ⟨.un .not (.tmp 102), none, (some 103), [102]⟩]
def m57r23 : List MOper := [⟨.mv (.tmp 16), none, (some 104), [16]⟩,
  ⟨.bin .add .other (.tmp 104) (.lit (.int .i64 1)), none, (some 105), [104]⟩,
  ⟨.mv (.tmp 105), none, (some 14), [105]⟩]
def m57r24 : List MOper := [⟨.mv (.tmp 16), none, (some 106), [16]⟩,
  ⟨.mv (.tmp 106), none, (some 15), [106]⟩]
def m57l25 : MCode := (.seq (.seq (.region m57r19 [0, 2, 4, 14, 15, 85])
  (.cond (.tmp 85)
  .skip
  (.exit 4)))
  (.block 5 (.seq (.region m57r20 [0, 2, 4, 14, 15, 16])
  (.seq (.dregion m57r21 m57r22 [] [0, 2, 4, 14, 15, 16, 103])
  (.cond (.tmp 103)
  (.region m57r23 [0, 2, 4, 14, 15])
  (.region m57r24 [0, 2, 4, 14, 15]))))))
def m57r26 : List MOper := [⟨.mv (.tmp 2), none, (some 107), [2]⟩,
  ⟨.mv (.tmp 107), none, (some 17), [107]⟩]
def m57r27 : List MOper := [⟨.mv (.tmp 17), none, (some 108), [17]⟩,
  ⟨.mv (.tmp 14), none, (some 109), [14]⟩,
  ⟨.bin .gtr .other (.tmp 108) (.tmp 109), none, (some 110), [108, 109]⟩]
def m57r28 : List MOper := [⟨.mv (.tmp 0), none, (some 113), [0]⟩,
  ⟨.mv (.tmp 17), none, (some 114), [17]⟩,
  ⟨.mv (.tmp 0), none, (some 115), [0]⟩,
  ⟨.mv (.tmp 17), none, (some 116), [17]⟩,
  ⟨.bin .sub .other (.tmp 116) (.lit (.int .i64 1)), none, (some 117), [116]⟩,
  ⟨.mv (.tmp 0), none, (some 118), [0]⟩,
  ⟨.mv (.tmp 17), none, (some 119), [17]⟩,
  ⟨.bin .sub .other (.tmp 119) (.lit (.int .i64 1)), none, (some 120), [119]⟩,
  ⟨.iaddr 4 (.tmp 118) (.tmp 120), none, (some 121), [118, 120]⟩,
  ⟨.load (some 4) (.tmp 121), none, (some 122), [121]⟩,
  ⟨.mv (.tmp 0), none, (some 123), [0]⟩,
  ⟨.mv (.tmp 17), none, (some 124), [17]⟩,
  ⟨.iaddr 4 (.tmp 123) (.tmp 124), none, (some 125), [123, 124]⟩,
  ⟨.load (some 4) (.tmp 125), none, (some 126), [125]⟩]
def m57r29 : List MOper := [⟨.iaddr 4 (.tmp 113) (.tmp 114), none, (some 127), [113, 114]⟩,
  ⟨.store 4 (.tmp 127) (.tmp 122), none, none, [127, 122]⟩,
  ⟨.iaddr 4 (.tmp 115) (.tmp 117), none, (some 128), [115, 117]⟩,
  ⟨.store 4 (.tmp 128) (.tmp 126), none, none, [128, 126]⟩]
def m57r30 : List MOper := [⟨.mv (.tmp 17), none, (some 111), [17]⟩,
  ⟨.bin .sub .other (.tmp 111) (.lit (.int .i64 1)), none, (some 112), [111]⟩,
  ⟨.mv (.tmp 112), none, (some 17), [112]⟩]
def m57l31 : MCode := (.seq (.seq (.region m57r27 [0, 14, 17, 110])
  (.cond (.tmp 110)
  .skip
  (.exit 6)))
  (.seq (.block 7 (.dregion m57r28 m57r29 [] [0, 14, 17]))
  (.region m57r30 [0, 14, 17])))
def m57r32 : List MOper := [⟨.mv (.tmp 1), none, (some 129), [1]⟩,
  ⟨.mv (.tmp 3), none, (some 130), [3]⟩,
  ⟨.bin .add .other (.tmp 129) (.tmp 130), none, (some 131), [129, 130]⟩,
  ⟨.conv .u64 (.tmp 131), none, (some 132), [131]⟩,
  ⟨.bin .shr .other (.tmp 132) (.lit (.int .u64 1)), none, (some 133), [132]⟩,
  ⟨.conv .i64 (.tmp 133), none, (some 134), [133]⟩,
  ⟨.mv (.tmp 134), none, (some 18), [134]⟩]
def m57r33 : List MOper := [⟨.mv (.tmp 18), none, (some 135), [18]⟩,
  ⟨.mv (.tmp 2), none, (some 136), [2]⟩,
  ⟨.bin .add .other (.tmp 135) (.tmp 136), none, (some 137), [135, 136]⟩,
  ⟨.mv (.tmp 137), none, (some 19), [137]⟩]
def m57r34 : List MOper := [⟨.mv (.lit (.int .i64 0)), none, (some 20), []⟩,
  ⟨.mv (.lit (.int .i64 0)), none, (some 21), []⟩]
def m57r35 : List MOper := [⟨.mv (.tmp 2), none, (some 138), [2]⟩,
  ⟨.mv (.tmp 18), none, (some 139), [18]⟩,
  ⟨.bin .gtr .other (.tmp 138) (.tmp 139), none, (some 140), [138, 139]⟩]
def m57r36 : List MOper := [⟨.mv (.tmp 19), none, (some 141), [19]⟩,
  ⟨.mv (.tmp 3), none, (some 142), [3]⟩,
  ⟨.bin .sub .other (.tmp 141) (.tmp 142), none, (some 143), [141, 142]⟩,
  ⟨.mv (.tmp 143), none, (some 20), [143]⟩]
def m57r37 : List MOper := [⟨.mv (.tmp 18), none, (some 144), [18]⟩,
  ⟨.mv (.tmp 144), none, (some 21), [144]⟩]
def m57r38 : List MOper := [⟨.mv (.tmp 1), none, (some 145), [1]⟩,
  ⟨.mv (.tmp 145), none, (some 20), [145]⟩]
def m57r39 : List MOper := [⟨.mv (.tmp 2), none, (some 146), [2]⟩,
  ⟨.mv (.tmp 146), none, (some 21), [146]⟩]
def m57r40 : List MOper := [⟨.mv (.tmp 19), none, (some 147), [19]⟩,
  ⟨.bin .sub .other (.tmp 147) (.lit (.int .i64 1)), none, (some 148), [147]⟩,
  ⟨.mv (.tmp 148), none, (some 22), [148]⟩]
def m57r41 : List MOper := [⟨.mv (.tmp 20), none, (some 149), [20]⟩,
  ⟨.mv (.tmp 21), none, (some 150), [21]⟩,
  ⟨.bin .lss .other (.tmp 149) (.tmp 150), none, (some 151), [149, 150]⟩]
def m57r42 : List MOper := [⟨.mv (.tmp 20), none, (some 152), [20]⟩,
  ⟨.mv (.tmp 21), none, (some 153), [21]⟩,
  ⟨.bin .add .other (.tmp 152) (.tmp 153), none, (some 154), [152, 153]⟩,
  ⟨.conv .u64 (.tmp 154), none, (some 155), [154]⟩,
  ⟨.bin .shr .other (.tmp 155) (.lit (.int .u64 1)), none, (some 156), [155]⟩,
  ⟨.conv .i64 (.tmp 156), none, (some 157), [156]⟩,
  ⟨.mv (.tmp 157), none, (some 23), [157]⟩]
def m57r43 : List MOper := [⟨.mv (.tmp 4), none, (some 158), [4]⟩,
  ⟨.mv (.tmp 0), none, (some 159), [0]⟩,
  ⟨.mv (.tmp 22), none, (some 160), [22]⟩,
  ⟨.mv (.tmp 23), none, (some 161), [23]⟩,
  ⟨.bin .sub .other (.tmp 160) (.tmp 161), none, (some 162), [160, 161]⟩,
  ⟨.iaddr 4 (.tmp 159) (.tmp 162), none, (some 163), [159, 162]⟩,
  ⟨.load (some 4) (.tmp 163), none, (some 164), [163]⟩,
  ⟨.mv (.tmp 0), none, (some 165), [0]⟩,
  ⟨.mv (.tmp 23), none, (some 166), [23]⟩,
  ⟨.iaddr 4 (.tmp 165) (.tmp 166), none, (some 167), [165, 166]⟩,
  ⟨.load (some 4) (.tmp 167), none, (some 168), [167]⟩]
def m57r44 : List MOper := [⟨.callv (.tmp 158) [(.tmp 164), (.tmp 168)], none, (some 169), [158, 164, 168]⟩,
  ⟨.bin .lss .other (.tmp 169) (.lit (.int .i64 0)), none, (some 170), [169]⟩,
  ⟨.un .not (.tmp 170), none, (some 171), [170]⟩]
def m57r45 : List MOper := [⟨.mv (.tmp 23), none, (some 172), [23]⟩,
  ⟨.bin .add .other (.tmp 172) (.lit (.int .i64 1)), none, (some 173), [172]⟩,
  ⟨.mv (.tmp 173), none, (some 20), [173]⟩]
def m57r46 : List MOper := [⟨.mv (.tmp 23), none, (some 174), [23]⟩,
  ⟨.mv (.tmp 174), none, (some 21), [174]⟩]
def m57l47 : MCode := (.seq (.seq (.region m57r41 [0, 1, 2, 3, 4, 18, 19, 20, 21, 22, 151])
  (.cond (.tmp 151)
  .skip
  (.exit 8)))
  (.block 9 (.seq (.region m57r42 [0, 1, 2, 3, 4, 18, 19, 20, 21, 22, 23])
  (.seq (.dregion m57r43 m57r44 [] [0, 1, 2, 3, 4, 18, 19, 20, 21, 22, 23, 171])
  (.cond (.tmp 171)
  (.region m57r45 [0, 1, 2, 3, 4, 18, 19, 20, 21, 22])
  (.region m57r46 [0, 1, 2, 3, 4, 18, 19, 20, 21, 22]))))))
def m57r48 : List MOper := [⟨.mv (.tmp 19), none, (some 175), [19]⟩,
  ⟨.mv (.tmp 20), none, (some 176), [20]⟩,
  ⟨.bin .sub .other (.tmp 175) (.tmp 176), none, (some 177), [175, 176]⟩,
  ⟨.mv (.tmp 177), none, (some 24), [177]⟩]
def m57r49 : List MOper := [⟨.mv (.tmp 20), none, (some 178), [20]⟩,
  ⟨.mv (.tmp 2), none, (some 179), [2]⟩,
  ⟨.bin .lss .other (.tmp 178) (.tmp 179), none, (some 180), [178, 179]⟩,
  ⟨.mv (.tmp 180), none, (some 181), [180]⟩,
  ⟨.mv (.tmp 2), (some (181, true)), (some 182), [2]⟩,
  ⟨.mv (.tmp 24), (some (181, true)), (some 183), [24]⟩,
  ⟨.bin .lss .other (.tmp 182) (.tmp 183), (some (181, true)), (some 184), [182, 183]⟩,
  ⟨.pick (.tmp 181) (.tmp 184) (.lit (.bool false)), none, (some 185), [181, 184]⟩]
def m57r50 : List MOper := [⟨.mv (.tmp 0), none, (some 186), [0]⟩,
  ⟨.mv (.tmp 20), none, (some 187), [20]⟩,
  ⟨.mv (.tmp 2), none, (some 188), [2]⟩,
  ⟨.mv (.tmp 24), none, (some 189), [24]⟩,
  ⟨.mv (.tmp 4), none, (some 190), [4]⟩,
  ⟨.call 58 [(.tmp 186), (.tmp 187), (.tmp 188), (.tmp 189), (.tmp 190)], none, (some 191), [186, 187, 188, 189, 190]⟩]
def m57r51 : List MOper := [⟨.mv (.tmp 1), none, (some 192), [1]⟩,
  ⟨.mv (.tmp 20), none, (some 193), [20]⟩,
  ⟨.bin .lss .other (.tmp 192) (.tmp 193), none, (some 194), [192, 193]⟩,
  ⟨.mv (.tmp 194), none, (some 195), [194]⟩,
  ⟨.mv (.tmp 20), (some (195, true)), (some 196), [20]⟩,
  ⟨.mv (.tmp 18), (some (195, true)), (some 197), [18]⟩,
  ⟨.bin .lss .other (.tmp 196) (.tmp 197), (some (195, true)), (some 198), [196, 197]⟩,
  ⟨.pick (.tmp 195) (.tmp 198) (.lit (.bool false)), none, (some 199), [195, 198]⟩]
def m57r52 : List MOper := [⟨.mv (.tmp 0), none, (some 200), [0]⟩,
  ⟨.mv (.tmp 1), none, (some 201), [1]⟩,
  ⟨.mv (.tmp 20), none, (some 202), [20]⟩,
  ⟨.mv (.tmp 18), none, (some 203), [18]⟩,
  ⟨.mv (.tmp 4), none, (some 204), [4]⟩,
  ⟨.call 57 [(.tmp 200), (.tmp 201), (.tmp 202), (.tmp 203), (.tmp 204)], none, (some 205), [200, 201, 202, 203, 204]⟩]
def m57r53 : List MOper := [⟨.mv (.tmp 18), none, (some 206), [18]⟩,
  ⟨.mv (.tmp 24), none, (some 207), [24]⟩,
  ⟨.bin .lss .other (.tmp 206) (.tmp 207), none, (some 208), [206, 207]⟩,
  ⟨.mv (.tmp 208), none, (some 209), [208]⟩,
  ⟨.mv (.tmp 24), (some (209, true)), (some 210), [24]⟩,
  ⟨.mv (.tmp 3), (some (209, true)), (some 211), [3]⟩,
  ⟨.bin .lss .other (.tmp 210) (.tmp 211), (some (209, true)), (some 212), [210, 211]⟩,
  ⟨.pick (.tmp 209) (.tmp 212) (.lit (.bool false)), none, (some 213), [209, 212]⟩]
def m57r54 : List MOper := [⟨.mv (.tmp 0), none, (some 214), [0]⟩,
  ⟨.mv (.tmp 18), none, (some 215), [18]⟩,
  ⟨.mv (.tmp 24), none, (some 216), [24]⟩,
  ⟨.mv (.tmp 3), none, (some 217), [3]⟩,
  ⟨.mv (.tmp 4), none, (some 218), [4]⟩,
  ⟨.call 57 [(.tmp 214), (.tmp 215), (.tmp 216), (.tmp 217), (.tmp 218)], none, (some 219), [214, 215, 216, 217, 218]⟩]
def m57 : MFunc := ⟨220, [],
  (.seq (.seq (.region m57r0 [0, 1, 2, 3, 4, 28])
  (.cond (.tmp 28)
  (.seq (.region m57r1 [0, 1, 3, 4, 10])
  (.seq (.region m57r2 [0, 1, 4, 10, 11])
  (.seq (.block 0 (.loop [0, 1, 4, 10, 11] m57l9))
  (.seq (.seq (.region m57r10 [0, 10, 13])
  (.block 2 (.loop [0, 10, 13] m57l15)))
  .ret))))
  .skip))
  (.seq (.seq (.region m57r16 [0, 1, 2, 3, 4, 80])
  (.cond (.tmp 80)
  (.seq (.region m57r17 [0, 2, 4, 14])
  (.seq (.region m57r18 [0, 2, 4, 14, 15])
  (.seq (.block 4 (.loop [0, 2, 4, 14, 15] m57l25))
  (.seq (.seq (.region m57r26 [0, 14, 17])
  (.block 6 (.loop [0, 14, 17] m57l31)))
  .ret))))
  .skip))
  (.seq (.region m57r32 [0, 1, 2, 3, 4, 18])
  (.seq (.region m57r33 [0, 1, 2, 3, 4, 18, 19])
  (.seq (.region m57r34 [0, 1, 2, 3, 4, 18, 19])
  (.seq (.seq (.region m57r35 [0, 1, 2, 3, 4, 18, 19, 140])
  (.cond (.tmp 140)
  (.seq (.region m57r36 [0, 1, 2, 3, 4, 18, 19, 20])
  (.region m57r37 [0, 1, 2, 3, 4, 18, 19, 20, 21]))
  (.seq (.region m57r38 [0, 1, 2, 3, 4, 18, 19, 20])
  (.region m57r39 [0, 1, 2, 3, 4, 18, 19, 20, 21]))))
  (.seq (.region m57r40 [0, 1, 2, 3, 4, 18, 19, 20, 21, 22])
  (.seq (.block 8 (.loop [0, 1, 2, 3, 4, 18, 19, 20, 21, 22] m57l47))
  (.seq (.region m57r48 [0, 1, 2, 3, 4, 18, 20, 24])
  (.seq (.seq (.region m57r49 [0, 1, 2, 3, 4, 18, 20, 24, 185])
  (.cond (.tmp 185)
  (.region m57r50 [0, 1, 3, 4, 18, 20, 24])
  .skip))
  (.seq (.seq (.region m57r51 [0, 1, 3, 4, 18, 20, 24, 199])
  (.cond (.tmp 199)
  (.region m57r52 [0, 3, 4, 18, 24])
  .skip))
  (.seq (.region m57r53 [0, 3, 4, 18, 24, 213])
  (.cond (.tmp 213)
  (.region m57r54 [])
  .skip)))))))))))))⟩
def h57 : List RH := [⟨[0, 1, 2, 3, 4, 28], 0, false⟩, ⟨[0, 1, 3, 4, 10], 0, false⟩, ⟨[0, 1, 4, 10, 11], 0, false⟩, ⟨[0, 1, 4, 10, 11], 0, false⟩, ⟨[0, 1, 4, 10, 11, 33], 0, false⟩, ⟨[0, 1, 4, 10, 11, 12], 0, false⟩, ⟨[0, 1, 4, 10, 11, 12, 50], 9, false⟩, ⟨[0, 1, 4, 10, 11], 0, false⟩, ⟨[0, 1, 4, 10, 11], 0, false⟩, ⟨[0, 10, 13], 0, false⟩, ⟨[0, 10, 13], 0, false⟩, ⟨[0, 10, 13, 58], 0, false⟩, ⟨[0, 10, 13], 14, false⟩, ⟨[0, 10, 13], 0, false⟩, ⟨[0, 1, 2, 3, 4, 80], 0, false⟩, ⟨[0, 2, 4, 14], 0, false⟩, ⟨[0, 2, 4, 14, 15], 0, false⟩, ⟨[0, 2, 4, 14, 15], 0, false⟩, ⟨[0, 2, 4, 14, 15, 85], 0, false⟩, ⟨[0, 2, 4, 14, 15, 16], 0, false⟩, ⟨[0, 2, 4, 14, 15, 16, 103], 9, false⟩, ⟨[0, 2, 4, 14, 15], 0, false⟩, ⟨[0, 2, 4, 14, 15], 0, false⟩, ⟨[0, 14, 17], 0, false⟩, ⟨[0, 14, 17], 0, false⟩, ⟨[0, 14, 17, 110], 0, false⟩, ⟨[0, 14, 17], 14, false⟩, ⟨[0, 14, 17], 0, false⟩, ⟨[0, 1, 2, 3, 4, 18], 0, false⟩, ⟨[0, 1, 2, 3, 4, 18, 19], 0, false⟩, ⟨[0, 1, 2, 3, 4, 18, 19], 0, false⟩, ⟨[0, 1, 2, 3, 4, 18, 19, 140], 0, false⟩, ⟨[0, 1, 2, 3, 4, 18, 19, 20], 0, false⟩, ⟨[0, 1, 2, 3, 4, 18, 19, 20, 21], 0, false⟩, ⟨[0, 1, 2, 3, 4, 18, 19, 20], 0, false⟩, ⟨[0, 1, 2, 3, 4, 18, 19, 20, 21], 0, false⟩, ⟨[0, 1, 2, 3, 4, 18, 19, 20, 21, 22], 0, false⟩, ⟨[0, 1, 2, 3, 4, 18, 19, 20, 21, 22], 0, false⟩, ⟨[0, 1, 2, 3, 4, 18, 19, 20, 21, 22, 151], 0, false⟩, ⟨[0, 1, 2, 3, 4, 18, 19, 20, 21, 22, 23], 0, false⟩, ⟨[0, 1, 2, 3, 4, 18, 19, 20, 21, 22, 23, 171], 11, false⟩, ⟨[0, 1, 2, 3, 4, 18, 19, 20, 21, 22], 0, false⟩, ⟨[0, 1, 2, 3, 4, 18, 19, 20, 21, 22], 0, false⟩, ⟨[0, 1, 2, 3, 4, 18, 20, 24], 0, false⟩, ⟨[0, 1, 2, 3, 4, 18, 20, 24, 185], 0, false⟩, ⟨[0, 1, 3, 4, 18, 20, 24], 0, false⟩, ⟨[0, 1, 3, 4, 18, 20, 24, 199], 0, false⟩, ⟨[0, 3, 4, 18, 24], 0, false⟩, ⟨[0, 3, 4, 18, 24, 213], 0, false⟩, ⟨[], 0, false⟩]
theorem m57_ok : cmpFn Try.prog 57 h57 = some m57 := by kernel_rfl

/- slices.rotateCmpFunc[dialtone/api.Branch] -/
def m58r0 : List MOper := [⟨.mv (.tmp 2), none, (some 12), [2]⟩,
  ⟨.mv (.tmp 1), none, (some 13), [1]⟩,
  ⟨.bin .sub .other (.tmp 12) (.tmp 13), none, (some 14), [12, 13]⟩,
  ⟨.mv (.tmp 14), none, (some 10), [14]⟩]
def m58r1 : List MOper := [⟨.mv (.tmp 3), none, (some 15), [3]⟩,
  ⟨.mv (.tmp 2), none, (some 16), [2]⟩,
  ⟨.bin .sub .other (.tmp 15) (.tmp 16), none, (some 17), [15, 16]⟩,
  ⟨.mv (.tmp 17), none, (some 11), [17]⟩]
def m58r2 : List MOper := [⟨.mv (.tmp 10), none, (some 18), [10]⟩,
  ⟨.mv (.tmp 11), none, (some 19), [11]⟩,
  ⟨.bin .neq .other (.tmp 18) (.tmp 19), none, (some 20), [18, 19]⟩]
def m58r3 : List MOper := [⟨.mv (.tmp 10), none, (some 21), [10]⟩,
  ⟨.mv (.tmp 11), none, (some 22), [11]⟩,
  ⟨.bin .gtr .other (.tmp 21) (.tmp 22), none, (some 23), [21, 22]⟩]
def m58r4 : List MOper := [⟨.mv (.tmp 0), none, (some 24), [0]⟩,
  ⟨.mv (.tmp 2), none, (some 25), [2]⟩,
  ⟨.mv (.tmp 10), none, (some 26), [10]⟩,
  ⟨.bin .sub .other (.tmp 25) (.tmp 26), none, (some 27), [25, 26]⟩,
  ⟨.mv (.tmp 2), none, (some 28), [2]⟩,
  ⟨.mv (.tmp 11), none, (some 29), [11]⟩,
  ⟨.mv (.tmp 4), none, (some 30), [4]⟩,
  ⟨.call 59 [(.tmp 24), (.tmp 27), (.tmp 28), (.tmp 29), (.tmp 30)], none, (some 31), [24, 27, 28, 29, 30]⟩]
def m58r5 : List MOper := [⟨.mv (.tmp 10), none, (some 32), [10]⟩,
  ⟨.mv (.tmp 11), none, (some 33), [11]⟩,
  ⟨.bin .sub .other (.tmp 32) (.tmp 33), none, (some 34), [32, 33]⟩,
  ⟨.mv (.tmp 34), none, (some 10), [34]⟩]
def m58r6 : List MOper := [⟨.mv (.tmp 0), none, (some 35), [0]⟩,
  ⟨.mv (.tmp 2), none, (some 36), [2]⟩,
  ⟨.mv (.tmp 10), none, (some 37), [10]⟩,
  ⟨.bin .sub .other (.tmp 36) (.tmp 37), none, (some 38), [36, 37]⟩,
  ⟨.mv (.tmp 2), none, (some 39), [2]⟩,
  ⟨.mv (.tmp 11), none, (some 40), [11]⟩,
  ⟨.bin .add .other (.tmp 39) (.tmp 40), none, (some 41), [39, 40]⟩,
  ⟨.mv (.tmp 10), none, (some 42), [10]⟩,
  ⟨.bin .sub .other (.tmp 41) (.tmp 42), none, (some 43), [41, 42]⟩,
  ⟨.mv (.tmp 10), none, (some 44), [10]⟩,
  ⟨.mv (.tmp 4), none, (some 45), [4]⟩,
  ⟨.call 59 [(.tmp 35), (.tmp 38), (.tmp 43), (.tmp 44), (.tmp 45)], none, (some 46), [35, 38, 43, 44, 45]⟩]
def m58r7 : List MOper := [⟨.mv (.tmp 11), none, (some 47), [11]⟩,
  ⟨.mv (.tmp 10), none, (some 48), [10]⟩,
  ⟨.bin .sub .other (.tmp 47) (.tmp 48), none, (some 49), [47, 48]⟩,
  ⟨.mv (.tmp 49), none, (some 11), [49]⟩]
def m58l8 : MCode := (.seq (.seq (.region m58r2 [0, 2, 4, 10, 11, 20])
  (.cond (.tmp 20)
  .skip
  (.exit 0)))
  (.block 1 (.seq (.region m58r3 [0, 2, 4, 10, 11, 23])
  (.cond (.tmp 23)
  (.seq (.region m58r4 [0, 2, 4, 10, 11])
  (.region m58r5 [0, 2, 4, 10, 11]))
  (.seq (.region m58r6 [0, 2, 4, 10, 11])
  (.region m58r7 [0, 2, 4, 10, 11]))))))
def m58r9 : List MOper := [⟨.mv (.tmp 0), none, (some 50), [0]⟩,
  ⟨.mv (.tmp 2), none, (some 51), [2]⟩,
  ⟨.mv (.tmp 10), none, (some 52), [10]⟩,
  ⟨.bin .sub .other (.tmp 51) (.tmp 52), none, (some 53), [51, 52]⟩,
  ⟨.mv (.tmp 2), none, (some 54), [2]⟩,
  ⟨.mv (.tmp 10), none, (some 55), [10]⟩,
  ⟨.mv (.tmp 4), none, (some 56), [4]⟩,
  ⟨.call 59 [(.tmp 50), (.tmp 53), (.tmp 54), (.tmp 55), (.tmp 56)], none, (some 57), [50, 53, 54, 55, 56]⟩]
def m58 : MFunc := ⟨58, [],
  (.seq (.region m58r0 [0, 2, 3, 4, 10])
  (.seq (.region m58r1 [0, 2, 4, 10, 11])
  (.seq (.block 0 (.loop [0, 2, 4, 10, 11] m58l8))
  (.region m58r9 []))))⟩
def h58 : List RH := [⟨[0, 2, 3, 4, 10], 0, false⟩, ⟨[0, 2, 4, 10, 11], 0, false⟩, ⟨[0, 2, 4, 10, 11], 0, false⟩, ⟨[0, 2, 4, 10, 11, 20], 0, false⟩, ⟨[0, 2, 4, 10, 11, 23], 0, false⟩, ⟨[0, 2, 4, 10, 11], 0, false⟩, ⟨[0, 2, 4, 10, 11], 0, false⟩, ⟨[0, 2, 4, 10, 11], 0, false⟩, ⟨[0, 2, 4, 10, 11], 0, false⟩, ⟨[], 0, false⟩]
theorem m58_ok : cmpFn Try.prog 58 h58 = some m58 := by kernel_rfl

/- slices.swapRangeCmpFunc[dialtone/api.Branch] -/
def m59r0 : List MOper := [⟨.mv (.lit (.int .i64 0)), none, (some 10), []⟩]
def m59r1 : List MOper := [⟨.mv (.tmp 10), none, (some 11), [10]⟩,
  ⟨.mv (.tmp 3), none, (some 12), [3]⟩,
  ⟨.bin .lss .other (.tmp 11) (.tmp 12), none, (some 13), [11, 12]⟩]
def m59r2 : List MOper := [⟨.mv (.tmp 0), none, (some 16), [0]⟩,
  ⟨.mv (.tmp 1), none, (some 17), [1]⟩,
  ⟨.mv (.tmp 10), none, (some 18), [10]⟩,
  ⟨.bin .add .other (.tmp 17) (.tmp 18), none, (some 19), [17, 18]⟩,
  ⟨.mv (.tmp 0), none, (some 20), [0]⟩,
  ⟨.mv (.tmp 2), none, (some 21), [2]⟩,
  ⟨.mv (.tmp 10), none, (some 22), [10]⟩,
  ⟨.bin .add .other (.tmp 21) (.tmp 22), none, (some 23), [21, 22]⟩,
  ⟨.mv (.tmp 0), none, (some 24), [0]⟩,
  ⟨.mv (.tmp 2), none, (some 25), [2]⟩,
  ⟨.mv (.tmp 10), none, (some 26), [10]⟩,
  ⟨.bin .add .other (.tmp 25) (.tmp 26), none, (some 27), [25, 26]⟩,
  ⟨.iaddr 4 (.tmp 24) (.tmp 27), none, (some 28), [24, 27]⟩,
  ⟨.load (some 4) (.tmp 28), none, (some 29), [28]⟩,
  ⟨.mv (.tmp 0), none, (some 30), [0]⟩,
  ⟨.mv (.tmp 1), none, (some 31), [1]⟩,
  ⟨.mv (.tmp 10), none, (some 32), [10]⟩,
  ⟨.bin .add .other (.tmp 31) (.tmp 32), none, (some 33), [31, 32]⟩,
  ⟨.iaddr 4 (.tmp 30) (.tmp 33), none, (some 34), [30, 33]⟩,
  ⟨.load (some 4) (.tmp 34), none, (some 35), [34]⟩]
def m59r3 : List MOper := [⟨.iaddr 4 (.tmp 16) (.tmp 19), none, (some 36), [16, 19]⟩,
  ⟨.store 4 (.tmp 36) (.tmp 29), none, none, [36, 29]⟩,
  ⟨.iaddr 4 (.tmp 20) (.tmp 23), none, (some 37), [20, 23]⟩,
  ⟨.store 4 (.tmp 37) (.tmp 35), none, none, [37, 35]⟩]
def m59r4 : List MOper := [⟨.mv (.tmp 10), none, (some 14), [10]⟩,
  ⟨.bin .add .other (.tmp 14) (.lit (.int .i64 1)), none, (some 15), [14]⟩,
  ⟨.mv (.tmp 15), none, (some 10), [15]⟩]
def m59l5 : MCode := (.seq (.seq (.region m59r1 [0, 1, 2, 3, 10, 13])
  (.cond (.tmp 13)
  .skip
  (.exit 0)))
  (.seq (.block 1 (.dregion m59r2 m59r3 [] [0, 1, 2, 3, 10]))
  (.region m59r4 [0, 1, 2, 3, 10])))
def m59 : MFunc := ⟨38, [],
  (.seq (.region m59r0 [0, 1, 2, 3, 10])
  (.block 0 (.loop [0, 1, 2, 3, 10] m59l5)))⟩
def h59 : List RH := [⟨[0, 1, 2, 3, 10], 0, false⟩, ⟨[0, 1, 2, 3, 10], 0, false⟩, ⟨[0, 1, 2, 3, 10, 13], 0, false⟩, ⟨[0, 1, 2, 3, 10], 20, false⟩, ⟨[0, 1, 2, 3, 10], 0, false⟩]
theorem m59_ok : cmpFn Try.prog 59 h59 = some m59 := by kernel_rfl

end Go.Ab.Try
