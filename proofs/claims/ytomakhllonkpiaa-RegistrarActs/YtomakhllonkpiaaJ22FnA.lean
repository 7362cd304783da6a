/-
  The translated functions of this claim, printed by a program of ours (gen.sh), with the kernel's word that they are the translation.
  Conditions: none.
-/
import Derived.Test.YtomakhllonkpiaaProg
import Derived.Test.YtomakhllonkpiaaAbEval
import Derived.KernelRfl
namespace Go.Ab.Try
open Go.Proofs
/- dialtone/dialtonelaw22.RegistrarKnown -/
def m5r0 : List MOper := [⟨.mv (.lit (.bool false)), none, (some 0), []⟩]
def m5r1 : List MOper := [⟨.call 19 [], none, (some 19), []⟩,
  ⟨.call 18 [(.tmp 19)], none, (some 20), [19]⟩,
  ⟨.mv (.tmp 20), none, (some 18), [20]⟩,
  ⟨.ext 0 (.tmp 18), none, (some 21), [18]⟩,
  ⟨.ext 1 (.tmp 18), none, (some 22), [18]⟩,
  ⟨.mv (.tmp 21), none, (some 1), [21]⟩,
  ⟨.mv (.tmp 22), none, (some 2), [22]⟩]
def m5r2 : List MOper := [⟨.mv (.tmp 1), none, (some 24), [1]⟩,
  ⟨.build [(.str []), (.int .i64 0), (.int .i64 0)] [(0, 1, (.lit (.str [120]))), (1, 1, (.lit (.int .i64 500))), (2, 1, (.lit (.int .i64 (-1))))], none, (some 25), []⟩,
  ⟨.build [(.str []), (.int .i64 0), (.int .i64 0)] [(0, 1, (.lit (.str [121]))), (2, 1, (.lit (.int .i64 60)))], none, (some 26), []⟩,
  ⟨.mkfrz [(.str []), (.int .i64 0), (.int .i64 0)] 2 [(0, (.tmp 25)), (1, (.tmp 26))], none, (some 27), [25, 26]⟩,
  ⟨.call 21 [(.lit (.int .i64 1)), (.tmp 27)], none, (some 28), [27]⟩,
  ⟨.call 20 [(.tmp 24), (.lit (.int .i64 1000)), (.tmp 28)], none, (some 29), [24, 28]⟩,
  ⟨.mv (.tmp 29), none, (some 23), [29]⟩,
  ⟨.ext 0 (.tmp 23), none, (some 30), [23]⟩,
  ⟨.ext 1 (.tmp 23), none, (some 31), [23]⟩,
  ⟨.mv (.tmp 30), none, (some 3), [30]⟩,
  ⟨.mv (.tmp 31), none, (some 4), [31]⟩]
def m5r3 : List MOper := [⟨.mv (.tmp 1), none, (some 33), [1]⟩,
  ⟨.build [(.str []), (.int .i64 0), (.int .i64 0)] [(0, 1, (.lit (.str [122]))), (2, 1, (.lit (.int .i64 (-1))))], none, (some 34), []⟩,
  ⟨.mkfrz [(.str []), (.int .i64 0), (.int .i64 0)] 1 [(0, (.tmp 34))], none, (some 35), [34]⟩,
  ⟨.call 21 [(.lit (.int .i64 2)), (.tmp 35)], none, (some 36), [35]⟩,
  ⟨.call 20 [(.tmp 33), (.lit (.int .i64 2000)), (.tmp 36)], none, (some 37), [33, 36]⟩,
  ⟨.mv (.tmp 37), none, (some 32), [37]⟩,
  ⟨.ext 0 (.tmp 32), none, (some 38), [32]⟩,
  ⟨.ext 1 (.tmp 32), none, (some 39), [32]⟩,
  ⟨.mv (.tmp 38), none, (some 5), [38]⟩,
  ⟨.mv (.tmp 39), none, (some 6), [39]⟩]
def m5r4 : List MOper := [⟨.mv (.tmp 1), none, (some 41), [1]⟩,
  ⟨.build [(.str []), (.int .i64 0), (.int .i64 0)] [(0, 1, (.lit (.str [122]))), (1, 1, (.lit (.int .i64 700))), (2, 1, (.lit (.int .i64 9999)))], none, (some 42), []⟩,
  ⟨.mkfrz [(.str []), (.int .i64 0), (.int .i64 0)] 1 [(0, (.tmp 42))], none, (some 43), [42]⟩,
  ⟨.call 21 [(.lit (.int .i64 2)), (.tmp 43)], none, (some 44), [43]⟩,
  ⟨.call 20 [(.tmp 41), (.lit (.int .i64 61000)), (.tmp 44)], none, (some 45), [41, 44]⟩,
  ⟨.mv (.tmp 45), none, (some 40), [45]⟩,
  ⟨.ext 0 (.tmp 40), none, (some 46), [40]⟩,
  ⟨.ext 1 (.tmp 40), none, (some 47), [40]⟩,
  ⟨.mv (.tmp 46), none, (some 7), [46]⟩,
  ⟨.mv (.tmp 47), none, (some 8), [47]⟩]
def m5r5 : List MOper := [⟨.mv (.tmp 1), none, (some 49), [1]⟩,
  ⟨.build [(.str []), (.int .i64 0), (.int .i64 0)] [(0, 1, (.lit (.str [120]))), (2, 1, (.lit (.int .i64 59)))], none, (some 50), []⟩,
  ⟨.mkfrz [(.str []), (.int .i64 0), (.int .i64 0)] 1 [(0, (.tmp 50))], none, (some 51), [50]⟩,
  ⟨.call 21 [(.lit (.int .i64 3)), (.tmp 51)], none, (some 52), [51]⟩,
  ⟨.call 20 [(.tmp 49), (.lit (.int .i64 61000)), (.tmp 52)], none, (some 53), [49, 52]⟩,
  ⟨.mv (.tmp 53), none, (some 48), [53]⟩,
  ⟨.ext 0 (.tmp 48), none, (some 54), [48]⟩,
  ⟨.ext 1 (.tmp 48), none, (some 55), [48]⟩,
  ⟨.mv (.tmp 54), none, (some 9), [54]⟩,
  ⟨.mv (.tmp 55), none, (some 10), [55]⟩]
def m5r6 : List MOper := [⟨.build [(.str []), (.str []), (.int .i64 0), (.bool false), .nils, (.int .i64 0), (.str []), (.int .i64 0), .nils] [(0, 1, (.lit (.str [97]))), (1, 1, (.lit (.str [99]))), (2, 1, (.lit (.int .i64 3))), (3, 1, (.lit (.bool true)))], none, (some 56), []⟩,
  ⟨.zbox [(.str []), (.str []), (.int .i64 0), (.bool false), .nils, (.int .i64 0), (.str []), (.int .i64 0), .nils], none, (some 11), []⟩,
  ⟨.store 9 (.tmp 11) (.tmp 56), none, none, [11, 56]⟩]
def m5r7 : List MOper := [⟨.mv (.tmp 1), none, (some 58), [1]⟩,
  ⟨.load (some 9) (.tmp 11), none, (some 59), [11]⟩,
  ⟨.call 20 [(.tmp 58), (.lit (.int .i64 60999)), (.tmp 59)], none, (some 60), [58, 59]⟩,
  ⟨.mv (.tmp 60), none, (some 57), [60]⟩,
  ⟨.ext 0 (.tmp 57), none, (some 61), [57]⟩,
  ⟨.ext 1 (.tmp 57), none, (some 62), [57]⟩,
  ⟨.mv (.tmp 61), none, (some 12), [61]⟩,
  ⟨.mv (.tmp 62), none, (some 13), [62]⟩]
def m5r8 : List MOper := [⟨.mv (.tmp 1), none, (some 64), [1]⟩,
  ⟨.load (some 9) (.tmp 11), none, (some 65), [11]⟩,
  ⟨.call 20 [(.tmp 64), (.lit (.int .i64 62000)), (.tmp 65)], none, (some 66), [64, 65]⟩,
  ⟨.mv (.tmp 66), none, (some 63), [66]⟩,
  ⟨.ext 0 (.tmp 63), none, (some 67), [63]⟩,
  ⟨.ext 1 (.tmp 63), none, (some 68), [63]⟩,
  ⟨.mv (.tmp 67), none, (some 14), [67]⟩,
  ⟨.mv (.tmp 68), none, (some 15), [68]⟩]
def m5r9 : List MOper := [⟨.call 19 [], none, (some 70), []⟩,
  ⟨.mv (.tmp 1), none, (some 71), [1]⟩,
  ⟨.call 23 [(.tmp 71)], none, (some 72), [71]⟩,
  ⟨.fld 0 none (.tmp 72), none, (some 73), [72]⟩,
  ⟨.call 22 [(.tmp 70), (.tmp 73)], none, (some 74), [70, 73]⟩,
  ⟨.mv (.tmp 74), none, (some 69), [74]⟩,
  ⟨.ext 0 (.tmp 69), none, (some 75), [69]⟩,
  ⟨.ext 1 (.tmp 69), none, (some 76), [69]⟩,
  ⟨.mv (.tmp 75), none, (some 16), [75]⟩,
  ⟨.mv (.tmp 76), none, (some 17), [76]⟩]
def m5r10 : List MOper := [⟨.mv (.tmp 2), none, (some 77), [2]⟩,
  ⟨.bin .eql .other (.tmp 77) (.lit (.int .u8 0)), none, (some 78), [77]⟩,
  ⟨.mv (.tmp 78), none, (some 79), [78]⟩,
  ⟨.mv (.tmp 4), (some (79, true)), (some 80), [4]⟩,
  ⟨.bin .eql .other (.tmp 80) (.lit (.int .u8 0)), (some (79, true)), (some 81), [80]⟩,
  ⟨.pick (.tmp 79) (.tmp 81) (.lit (.bool false)), none, (some 82), [79, 81]⟩,
  ⟨.mv (.tmp 82), none, (some 83), [82]⟩,
  ⟨.mv (.tmp 6), (some (83, true)), (some 84), [6]⟩,
  ⟨.bin .eql .other (.tmp 84) (.lit (.int .u8 10)), (some (83, true)), (some 85), [84]⟩,
  ⟨.pick (.tmp 83) (.tmp 85) (.lit (.bool false)), none, (some 86), [83, 85]⟩,
  ⟨.mv (.tmp 86), none, (some 87), [86]⟩,
  ⟨.mv (.tmp 8), (some (87, true)), (some 88), [8]⟩,
  ⟨.bin .eql .other (.tmp 88) (.lit (.int .u8 0)), (some (87, true)), (some 89), [88]⟩,
  ⟨.pick (.tmp 87) (.tmp 89) (.lit (.bool false)), none, (some 90), [87, 89]⟩,
  ⟨.mv (.tmp 90), none, (some 91), [90]⟩,
  ⟨.mv (.tmp 10), (some (91, true)), (some 92), [10]⟩,
  ⟨.bin .eql .other (.tmp 92) (.lit (.int .u8 16)), (some (91, true)), (some 93), [92]⟩,
  ⟨.pick (.tmp 91) (.tmp 93) (.lit (.bool false)), none, (some 94), [91, 93]⟩,
  ⟨.mv (.tmp 94), none, (some 95), [94]⟩,
  ⟨.mv (.tmp 13), (some (95, true)), (some 96), [13]⟩,
  ⟨.bin .eql .other (.tmp 96) (.lit (.int .u8 9)), (some (95, true)), (some 97), [96]⟩,
  ⟨.pick (.tmp 95) (.tmp 97) (.lit (.bool false)), none, (some 98), [95, 97]⟩,
  ⟨.mv (.tmp 98), none, (some 99), [98]⟩,
  ⟨.mv (.tmp 15), (some (99, true)), (some 100), [15]⟩,
  ⟨.bin .eql .other (.tmp 100) (.lit (.int .u8 0)), (some (99, true)), (some 101), [100]⟩,
  ⟨.pick (.tmp 99) (.tmp 101) (.lit (.bool false)), none, (some 102), [99, 101]⟩,
  ⟨.mv (.tmp 102), none, (some 103), [102]⟩,
  ⟨.mv (.tmp 14), (some (103, true)), (some 104), [14]⟩,
  ⟨.len 1 (.tmp 104), (some (103, true)), (some 105), [104]⟩,
  ⟨.bin .eql .other (.tmp 105) (.lit (.int .i64 0)), (some (103, true)), (some 106), [105]⟩,
  ⟨.pick (.tmp 103) (.tmp 106) (.lit (.bool false)), none, (some 107), [103, 106]⟩,
  ⟨.mv (.tmp 107), none, (some 108), [107]⟩,
  ⟨.mv (.tmp 1), (some (108, true)), (some 109), [1]⟩,
  ⟨.call 23 [(.tmp 109)], (some (108, true)), (some 110), [109]⟩,
  ⟨.fld 2 none (.tmp 110), (some (108, true)), (some 111), [110]⟩,
  ⟨.bin .eql .other (.tmp 111) (.lit (.int .i64 3)), (some (108, true)), (some 112), [111]⟩,
  ⟨.pick (.tmp 108) (.tmp 112) (.lit (.bool false)), none, (some 113), [108, 112]⟩,
  ⟨.mv (.tmp 113), none, (some 114), [113]⟩,
  ⟨.mv (.tmp 17), (some (114, true)), (some 115), [17]⟩,
  ⟨.bin .eql .other (.tmp 115) (.lit (.int .u8 0)), (some (114, true)), (some 116), [115]⟩,
  ⟨.pick (.tmp 114) (.tmp 116) (.lit (.bool false)), none, (some 117), [114, 116]⟩,
  ⟨.mv (.tmp 117), none, (some 118), [117]⟩,
  ⟨.mv (.tmp 16), (some (118, true)), (some 119), [16]⟩,
  ⟨.call 24 [(.tmp 119)], (some (118, true)), (some 120), [119]⟩,
  ⟨.len 1 (.tmp 120), (some (118, true)), (some 121), [120]⟩,
  ⟨.bin .eql .other (.tmp 121) (.lit (.int .i64 0)), (some (118, true)), (some 122), [121]⟩,
  ⟨.pick (.tmp 118) (.tmp 122) (.lit (.bool false)), none, (some 123), [118, 122]⟩,
  ⟨.mv (.tmp 123), none, (some 124), [123]⟩,
  ⟨.mv (.tmp 16), (some (124, true)), (some 125), [16]⟩,
  ⟨.call 23 [(.tmp 125)], (some (124, true)), (some 126), [125]⟩,
  ⟨.fld 2 none (.tmp 126), (some (124, true)), (some 127), [126]⟩,
  ⟨.bin .eql .other (.tmp 127) (.lit (.int .i64 3)), (some (124, true)), (some 128), [127]⟩,
  ⟨.pick (.tmp 124) (.tmp 128) (.lit (.bool false)), none, (some 129), [124, 128]⟩,
  ⟨.mv (.tmp 129), none, (some 130), [129]⟩,
  ⟨.call 8 [], (some (130, true)), (some 131), []⟩,
  ⟨.pick (.tmp 130) (.tmp 131) (.lit (.bool false)), none, (some 132), [130, 131]⟩,
  ⟨.mv (.tmp 132), none, (some 0), [132]⟩]
def m5 : MFunc := ⟨133, [.tmp 0],
  (.seq (.region m5r0 [])
  (.seq (.region m5r1 [1, 2])
  (.seq (.region m5r2 [1, 2, 4])
  (.seq (.region m5r3 [1, 2, 4, 6])
  (.seq (.region m5r4 [1, 2, 4, 6, 8])
  (.seq (.region m5r5 [1, 2, 4, 6, 8, 10])
  (.seq (.region m5r6 [1, 2, 4, 6, 8, 10, 11])
  (.seq (.region m5r7 [1, 2, 4, 6, 8, 10, 11, 13])
  (.seq (.region m5r8 [1, 2, 4, 6, 8, 10, 13, 14, 15])
  (.seq (.region m5r9 [1, 2, 4, 6, 8, 10, 13, 14, 15, 16, 17])
  (.seq (.region m5r10 [0])
  .ret)))))))))))⟩
def h5 : List RH := [⟨[], 0, false, []⟩, ⟨[1, 2], 0, false, []⟩, ⟨[1, 2, 4], 0, false, []⟩, ⟨[1, 2, 4, 6], 0, false, []⟩, ⟨[1, 2, 4, 6, 8], 0, false, []⟩, ⟨[1, 2, 4, 6, 8, 10], 0, false, []⟩, ⟨[1, 2, 4, 6, 8, 10, 11], 0, false, []⟩, ⟨[1, 2, 4, 6, 8, 10, 11, 13], 0, false, []⟩, ⟨[1, 2, 4, 6, 8, 10, 13, 14, 15], 0, false, []⟩, ⟨[1, 2, 4, 6, 8, 10, 13, 14, 15, 16, 17], 0, false, []⟩, ⟨[0], 0, false, []⟩]
theorem m5_ok : cmpFn Try.prog 5 h5 = some m5 := by kernel_rfl

/- dialtone/dialtonelaw22.lives -/
def m8r0 : List MOper := [⟨.mv (.lit (.bool false)), none, (some 0), []⟩]
def m8r1 : List MOper := [⟨.call 19 [], none, (some 10), []⟩,
  ⟨.call 18 [(.tmp 10)], none, (some 11), [10]⟩,
  ⟨.mv (.tmp 11), none, (some 9), [11]⟩,
  ⟨.ext 0 (.tmp 9), none, (some 12), [9]⟩,
  ⟨.ext 1 (.tmp 9), none, (some 13), [9]⟩,
  ⟨.mv (.tmp 12), none, (some 1), [12]⟩,
  ⟨.mv (.tmp 13), none, (some 2), [13]⟩]
def m8r2 : List MOper := [⟨.mv (.tmp 1), none, (some 15), [1]⟩,
  ⟨.build [(.str []), (.int .i64 0), (.int .i64 0)] [(0, 1, (.lit (.str [120]))), (1, 1, (.lit (.int .i64 500))), (2, 1, (.lit (.int .i64 (-1))))], none, (some 16), []⟩,
  ⟨.build [(.str []), (.int .i64 0), (.int .i64 0)] [(0, 1, (.lit (.str [121]))), (2, 1, (.lit (.int .i64 60)))], none, (some 17), []⟩,
  ⟨.mkfrz [(.str []), (.int .i64 0), (.int .i64 0)] 2 [(0, (.tmp 16)), (1, (.tmp 17))], none, (some 18), [16, 17]⟩,
  ⟨.call 21 [(.lit (.int .i64 1)), (.tmp 18)], none, (some 19), [18]⟩,
  ⟨.call 20 [(.tmp 15), (.lit (.int .i64 1000)), (.tmp 19)], none, (some 20), [15, 19]⟩,
  ⟨.mv (.tmp 20), none, (some 14), [20]⟩,
  ⟨.ext 0 (.tmp 14), none, (some 21), [14]⟩,
  ⟨.ext 1 (.tmp 14), none, (some 22), [14]⟩,
  ⟨.mv (.tmp 21), none, (some 3), [21]⟩,
  ⟨.mv (.tmp 22), none, (some 4), [22]⟩]
def m8r3 : List MOper := [⟨.mv (.tmp 1), none, (some 24), [1]⟩,
  ⟨.build [(.str []), (.int .i64 0), (.int .i64 0)] [(0, 1, (.lit (.str [120]))), (2, 1, (.lit (.int .i64 (-1))))], none, (some 25), []⟩,
  ⟨.mkfrz [(.str []), (.int .i64 0), (.int .i64 0)] 1 [(0, (.tmp 25))], none, (some 26), [25]⟩,
  ⟨.call 21 [(.lit (.int .i64 1)), (.tmp 26)], none, (some 27), [26]⟩,
  ⟨.call 20 [(.tmp 24), (.lit (.int .i64 2000)), (.tmp 27)], none, (some 28), [24, 27]⟩,
  ⟨.mv (.tmp 28), none, (some 23), [28]⟩,
  ⟨.ext 0 (.tmp 23), none, (some 29), [23]⟩,
  ⟨.ext 1 (.tmp 23), none, (some 30), [23]⟩,
  ⟨.mv (.tmp 29), none, (some 5), [29]⟩,
  ⟨.mv (.tmp 30), none, (some 6), [30]⟩]
def m8r4 : List MOper := [⟨.mv (.tmp 1), none, (some 32), [1]⟩,
  ⟨.build [(.str []), (.int .i64 0), (.int .i64 0)] [(0, 1, (.lit (.str [122]))), (1, 1, (.lit (.int .i64 700))), (2, 1, (.lit (.int .i64 9999)))], none, (some 33), []⟩,
  ⟨.mkfrz [(.str []), (.int .i64 0), (.int .i64 0)] 1 [(0, (.tmp 33))], none, (some 34), [33]⟩,
  ⟨.call 21 [(.lit (.int .i64 2)), (.tmp 34)], none, (some 35), [34]⟩,
  ⟨.call 20 [(.tmp 32), (.lit (.int .i64 61000)), (.tmp 35)], none, (some 36), [32, 35]⟩,
  ⟨.mv (.tmp 36), none, (some 31), [36]⟩,
  ⟨.ext 0 (.tmp 31), none, (some 37), [31]⟩,
  ⟨.ext 1 (.tmp 31), none, (some 38), [31]⟩,
  ⟨.mv (.tmp 37), none, (some 7), [37]⟩,
  ⟨.mv (.tmp 38), none, (some 8), [38]⟩]
def m8r5 : List MOper := [⟨.mv (.tmp 2), none, (some 39), [2]⟩,
  ⟨.bin .eql .other (.tmp 39) (.lit (.int .u8 0)), none, (some 40), [39]⟩,
  ⟨.mv (.tmp 40), none, (some 41), [40]⟩,
  ⟨.mv (.tmp 4), (some (41, true)), (some 42), [4]⟩,
  ⟨.bin .eql .other (.tmp 42) (.lit (.int .u8 0)), (some (41, true)), (some 43), [42]⟩,
  ⟨.pick (.tmp 41) (.tmp 43) (.lit (.bool false)), none, (some 44), [41, 43]⟩,
  ⟨.mv (.tmp 44), none, (some 45), [44]⟩,
  ⟨.mv (.tmp 3), (some (45, true)), (some 46), [3]⟩,
  ⟨.len 1 (.tmp 46), (some (45, true)), (some 47), [46]⟩,
  ⟨.bin .eql .other (.tmp 47) (.lit (.int .i64 2)), (some (45, true)), (some 48), [47]⟩,
  ⟨.pick (.tmp 45) (.tmp 48) (.lit (.bool false)), none, (some 49), [45, 48]⟩,
  ⟨.mv (.tmp 49), none, (some 50), [49]⟩,
  ⟨.mv (.tmp 3), (some (50, true)), (some 51), [3]⟩,
  ⟨.iaddr 10 (.tmp 51) (.lit (.int .i64 0)), (some (50, true)), (some 52), [51]⟩,
  ⟨.faddr 1 (.tmp 52), (some (50, true)), (some 53), [52]⟩,
  ⟨.load none (.tmp 53), (some (50, true)), (some 54), [53]⟩,
  ⟨.bin .eql .other (.tmp 54) (.lit (.str [120])), (some (50, true)), (some 55), [54]⟩,
  ⟨.pick (.tmp 50) (.tmp 55) (.lit (.bool false)), none, (some 56), [50, 55]⟩,
  ⟨.mv (.tmp 56), none, (some 57), [56]⟩,
  ⟨.mv (.tmp 3), (some (57, true)), (some 58), [3]⟩,
  ⟨.iaddr 10 (.tmp 58) (.lit (.int .i64 0)), (some (57, true)), (some 59), [58]⟩,
  ⟨.faddr 3 (.tmp 59), (some (57, true)), (some 60), [59]⟩,
  ⟨.load none (.tmp 60), (some (57, true)), (some 61), [60]⟩,
  ⟨.bin .eql .other (.tmp 61) (.lit (.int .i64 3601000)), (some (57, true)), (some 62), [61]⟩,
  ⟨.pick (.tmp 57) (.tmp 62) (.lit (.bool false)), none, (some 63), [57, 62]⟩,
  ⟨.mv (.tmp 63), none, (some 64), [63]⟩,
  ⟨.mv (.tmp 3), (some (64, true)), (some 65), [3]⟩,
  ⟨.iaddr 10 (.tmp 65) (.lit (.int .i64 1)), (some (64, true)), (some 66), [65]⟩,
  ⟨.faddr 3 (.tmp 66), (some (64, true)), (some 67), [66]⟩,
  ⟨.load none (.tmp 67), (some (64, true)), (some 68), [67]⟩,
  ⟨.bin .eql .other (.tmp 68) (.lit (.int .i64 61000)), (some (64, true)), (some 69), [68]⟩,
  ⟨.pick (.tmp 64) (.tmp 69) (.lit (.bool false)), none, (some 70), [64, 69]⟩,
  ⟨.mv (.tmp 70), none, (some 71), [70]⟩,
  ⟨.mv (.tmp 6), (some (71, true)), (some 72), [6]⟩,
  ⟨.bin .eql .other (.tmp 72) (.lit (.int .u8 13)), (some (71, true)), (some 73), [72]⟩,
  ⟨.pick (.tmp 71) (.tmp 73) (.lit (.bool false)), none, (some 74), [71, 73]⟩,
  ⟨.mv (.tmp 74), none, (some 75), [74]⟩,
  ⟨.mv (.tmp 8), (some (75, true)), (some 76), [8]⟩,
  ⟨.bin .eql .other (.tmp 76) (.lit (.int .u8 0)), (some (75, true)), (some 77), [76]⟩,
  ⟨.pick (.tmp 75) (.tmp 77) (.lit (.bool false)), none, (some 78), [75, 77]⟩,
  ⟨.mv (.tmp 78), none, (some 79), [78]⟩,
  ⟨.mv (.tmp 7), (some (79, true)), (some 80), [7]⟩,
  ⟨.len 1 (.tmp 80), (some (79, true)), (some 81), [80]⟩,
  ⟨.bin .eql .other (.tmp 81) (.lit (.int .i64 2)), (some (79, true)), (some 82), [81]⟩,
  ⟨.pick (.tmp 79) (.tmp 82) (.lit (.bool false)), none, (some 83), [79, 82]⟩,
  ⟨.mv (.tmp 83), none, (some 84), [83]⟩,
  ⟨.mv (.tmp 7), (some (84, true)), (some 85), [7]⟩,
  ⟨.iaddr 10 (.tmp 85) (.lit (.int .i64 0)), (some (84, true)), (some 86), [85]⟩,
  ⟨.faddr 1 (.tmp 86), (some (84, true)), (some 87), [86]⟩,
  ⟨.load none (.tmp 87), (some (84, true)), (some 88), [87]⟩,
  ⟨.bin .eql .other (.tmp 88) (.lit (.str [122])), (some (84, true)), (some 89), [88]⟩,
  ⟨.pick (.tmp 84) (.tmp 89) (.lit (.bool false)), none, (some 90), [84, 89]⟩,
  ⟨.mv (.tmp 90), none, (some 91), [90]⟩,
  ⟨.mv (.tmp 7), (some (91, true)), (some 92), [7]⟩,
  ⟨.iaddr 10 (.tmp 92) (.lit (.int .i64 0)), (some (91, true)), (some 93), [92]⟩,
  ⟨.faddr 3 (.tmp 93), (some (91, true)), (some 94), [93]⟩,
  ⟨.load none (.tmp 94), (some (91, true)), (some 95), [94]⟩,
  ⟨.bin .eql .other (.tmp 95) (.lit (.int .i64 7261000)), (some (91, true)), (some 96), [95]⟩,
  ⟨.pick (.tmp 91) (.tmp 96) (.lit (.bool false)), none, (some 97), [91, 96]⟩,
  ⟨.mv (.tmp 97), none, (some 98), [97]⟩,
  ⟨.mv (.tmp 7), (some (98, true)), (some 99), [7]⟩,
  ⟨.iaddr 10 (.tmp 99) (.lit (.int .i64 0)), (some (98, true)), (some 100), [99]⟩,
  ⟨.faddr 4 (.tmp 100), (some (98, true)), (some 101), [100]⟩,
  ⟨.load none (.tmp 101), (some (98, true)), (some 102), [101]⟩,
  ⟨.bin .eql .other (.tmp 102) (.lit (.int .i64 1)), (some (98, true)), (some 103), [102]⟩,
  ⟨.pick (.tmp 98) (.tmp 103) (.lit (.bool false)), none, (some 104), [98, 103]⟩,
  ⟨.mv (.tmp 104), none, (some 105), [104]⟩,
  ⟨.mv (.tmp 7), (some (105, true)), (some 106), [7]⟩,
  ⟨.iaddr 10 (.tmp 106) (.lit (.int .i64 1)), (some (105, true)), (some 107), [106]⟩,
  ⟨.faddr 1 (.tmp 107), (some (105, true)), (some 108), [107]⟩,
  ⟨.load none (.tmp 108), (some (105, true)), (some 109), [108]⟩,
  ⟨.bin .eql .other (.tmp 109) (.lit (.str [120])), (some (105, true)), (some 110), [109]⟩,
  ⟨.pick (.tmp 105) (.tmp 110) (.lit (.bool false)), none, (some 111), [105, 110]⟩,
  ⟨.mv (.tmp 111), none, (some 0), [111]⟩]
def m8 : MFunc := ⟨112, [.tmp 0],
  (.seq (.region m8r0 [])
  (.seq (.region m8r1 [1, 2])
  (.seq (.region m8r2 [1, 2, 3, 4])
  (.seq (.region m8r3 [1, 2, 3, 4, 6])
  (.seq (.region m8r4 [2, 3, 4, 6, 7, 8])
  (.seq (.region m8r5 [0])
  .ret))))))⟩
def h8 : List RH := [⟨[], 0, false, []⟩, ⟨[1, 2], 0, false, []⟩, ⟨[1, 2, 3, 4], 0, false, []⟩, ⟨[1, 2, 3, 4, 6], 0, false, []⟩, ⟨[2, 3, 4, 6, 7, 8], 0, false, []⟩, ⟨[0], 0, false, []⟩]
theorem m8_ok : cmpFn Try.prog 8 h8 = some m8 := by kernel_rfl

/- dialtone/registrar.Valid -/
def m9r0 : List MOper := [⟨.box 4 (.tmp 0), none, (some 1), [0]⟩,
  ⟨.mv (.lit (.bool false)), none, (some 2), []⟩]
def m9r1 : List MOper := [⟨.faddr 0 (.tmp 1), none, (some 3), [1]⟩,
  ⟨.load none (.tmp 3), none, (some 4), [3]⟩,
  ⟨.bin .geq .other (.tmp 4) (.lit (.int .i64 1)), none, (some 5), [4]⟩,
  ⟨.mv (.tmp 5), none, (some 6), [5]⟩,
  ⟨.faddr 0 (.tmp 1), (some (6, true)), (some 7), [1]⟩,
  ⟨.load none (.tmp 7), (some (6, true)), (some 8), [7]⟩,
  ⟨.faddr 1 (.tmp 1), (some (6, true)), (some 9), [1]⟩,
  ⟨.load none (.tmp 9), (some (6, true)), (some 10), [9]⟩,
  ⟨.bin .leq .other (.tmp 8) (.tmp 10), (some (6, true)), (some 11), [8, 10]⟩,
  ⟨.pick (.tmp 6) (.tmp 11) (.lit (.bool false)), none, (some 12), [6, 11]⟩,
  ⟨.mv (.tmp 12), none, (some 13), [12]⟩,
  ⟨.faddr 1 (.tmp 1), (some (13, true)), (some 14), [1]⟩,
  ⟨.load none (.tmp 14), (some (13, true)), (some 15), [14]⟩,
  ⟨.faddr 2 (.tmp 1), (some (13, true)), (some 16), [1]⟩,
  ⟨.load none (.tmp 16), (some (13, true)), (some 17), [16]⟩,
  ⟨.bin .leq .other (.tmp 15) (.tmp 17), (some (13, true)), (some 18), [15, 17]⟩,
  ⟨.pick (.tmp 13) (.tmp 18) (.lit (.bool false)), none, (some 19), [13, 18]⟩,
  ⟨.mv (.tmp 19), none, (some 20), [19]⟩,
  ⟨.faddr 2 (.tmp 1), (some (20, true)), (some 21), [1]⟩,
  ⟨.load none (.tmp 21), (some (20, true)), (some 22), [21]⟩,
  ⟨.bin .leq .other (.tmp 22) (.lit (.int .i64 10000000)), (some (20, true)), (some 23), [22]⟩,
  ⟨.pick (.tmp 20) (.tmp 23) (.lit (.bool false)), none, (some 24), [20, 23]⟩,
  ⟨.mv (.tmp 24), none, (some 25), [24]⟩,
  ⟨.faddr 3 (.tmp 1), (some (25, true)), (some 26), [1]⟩,
  ⟨.load none (.tmp 26), (some (25, true)), (some 27), [26]⟩,
  ⟨.bin .geq .other (.tmp 27) (.lit (.int .i64 1)), (some (25, true)), (some 28), [27]⟩,
  ⟨.pick (.tmp 25) (.tmp 28) (.lit (.bool false)), none, (some 29), [25, 28]⟩,
  ⟨.mv (.tmp 29), none, (some 30), [29]⟩,
  ⟨.faddr 3 (.tmp 1), (some (30, true)), (some 31), [1]⟩,
  ⟨.load none (.tmp 31), (some (30, true)), (some 32), [31]⟩,
  ⟨.bin .leq .other (.tmp 32) (.lit (.int .i64 100)), (some (30, true)), (some 33), [32]⟩,
  ⟨.pick (.tmp 30) (.tmp 33) (.lit (.bool false)), none, (some 34), [30, 33]⟩,
  ⟨.mv (.tmp 34), none, (some 2), [34]⟩]
def m9 : MFunc := ⟨35, [.tmp 2],
  (.seq (.region m9r0 [1])
  (.seq (.region m9r1 [2])
  .ret))⟩
def h9 : List RH := [⟨[1], 0, false, []⟩, ⟨[2], 0, false, []⟩]
theorem m9_ok : cmpFn Try.prog 9 h9 = some m9 := by kernel_rfl

/- dialtone/registrar.Formed -/
def m11r0 : List MOper := [⟨.box 9 (.tmp 0), none, (some 1), [0]⟩,
  ⟨.mv (.lit (.bool false)), none, (some 2), []⟩]
def m11r1 : List MOper := [⟨.faddr 0 (.tmp 1), none, (some 7), [1]⟩,
  ⟨.load none (.tmp 7), none, (some 8), [7]⟩,
  ⟨.len 0 (.tmp 8), none, (some 9), [8]⟩,
  ⟨.call 29 [(.tmp 9), (.lit (.int .i64 1)), (.lit (.int .i64 255))], none, (some 10), [9]⟩,
  ⟨.un .not (.tmp 10), none, (some 11), [10]⟩,
  ⟨.mv (.tmp 11), none, (some 12), [11]⟩,
  ⟨.faddr 1 (.tmp 1), (some (12, false)), (some 13), [1]⟩,
  ⟨.load none (.tmp 13), (some (12, false)), (some 14), [13]⟩,
  ⟨.len 0 (.tmp 14), (some (12, false)), (some 15), [14]⟩,
  ⟨.call 29 [(.tmp 15), (.lit (.int .i64 1)), (.lit (.int .i64 255))], (some (12, false)), (some 16), [15]⟩,
  ⟨.un .not (.tmp 16), (some (12, false)), (some 17), [16]⟩,
  ⟨.pick (.tmp 12) (.lit (.bool true)) (.tmp 17), none, (some 18), [12, 17]⟩,
  ⟨.mv (.tmp 18), none, (some 19), [18]⟩,
  ⟨.faddr 2 (.tmp 1), (some (19, false)), (some 20), [1]⟩,
  ⟨.load none (.tmp 20), (some (19, false)), (some 21), [20]⟩,
  ⟨.call 29 [(.tmp 21), (.lit (.int .i64 0)), (.lit (.int .i64 2147483647))], (some (19, false)), (some 22), [21]⟩,
  ⟨.un .not (.tmp 22), (some (19, false)), (some 23), [22]⟩,
  ⟨.pick (.tmp 19) (.lit (.bool true)) (.tmp 23), none, (some 24), [19, 23]⟩,
  ⟨.mv (.tmp 24), none, (some 25), [24]⟩,
  ⟨.faddr 5 (.tmp 1), (some (25, false)), (some 26), [1]⟩,
  ⟨.load none (.tmp 26), (some (25, false)), (some 27), [26]⟩,
  ⟨.call 29 [(.tmp 27), (.lit (.int .i64 (-1))), (.lit (.int .i64 2147483647))], (some (25, false)), (some 28), [27]⟩,
  ⟨.un .not (.tmp 28), (some (25, false)), (some 29), [28]⟩,
  ⟨.pick (.tmp 25) (.lit (.bool true)) (.tmp 29), none, (some 30), [25, 29]⟩,
  ⟨.mv (.tmp 30), none, (some 6), [30]⟩]
def m11r2 : List MOper := [⟨.mv (.lit (.bool false)), none, (some 2), []⟩]
def m11r3 : List MOper := [⟨.faddr 4 (.tmp 1), none, (some 32), [1]⟩,
  ⟨.load none (.tmp 32), none, (some 33), [32]⟩,
  ⟨.len 1 (.tmp 33), none, (some 34), [33]⟩,
  ⟨.bin .gtr .other (.tmp 34) (.lit (.int .i64 20)), none, (some 35), [34]⟩,
  ⟨.mv (.tmp 35), none, (some 36), [35]⟩,
  ⟨.faddr 3 (.tmp 1), (some (36, false)), (some 37), [1]⟩,
  ⟨.load none (.tmp 37), (some (36, false)), (some 38), [37]⟩,
  ⟨.mv (.tmp 38), (some (36, false)), (some 39), [38]⟩,
  ⟨.faddr 4 (.tmp 1), (some (39, true)), (some 40), [1]⟩,
  ⟨.load none (.tmp 40), (some (39, true)), (some 41), [40]⟩,
  ⟨.len 1 (.tmp 41), (some (39, true)), (some 42), [41]⟩,
  ⟨.bin .gtr .other (.tmp 42) (.lit (.int .i64 0)), (some (39, true)), (some 43), [42]⟩,
  ⟨.mv (.tmp 43), (some (39, true)), (some 44), [43]⟩,
  ⟨.faddr 5 (.tmp 1), (some (44, false)), (some 45), [1]⟩,
  ⟨.load none (.tmp 45), (some (44, false)), (some 46), [45]⟩,
  ⟨.bin .neq .other (.tmp 46) (.lit (.int .i64 0)), (some (44, false)), (some 47), [46]⟩,
  ⟨.pick (.tmp 44) (.lit (.bool true)) (.tmp 47), (some (39, true)), (some 48), [44, 47]⟩,
  ⟨.pick (.tmp 39) (.tmp 48) (.lit (.bool false)), (some (36, false)), (some 49), [39, 48]⟩,
  ⟨.pick (.tmp 36) (.lit (.bool true)) (.tmp 49), none, (some 50), [36, 49]⟩,
  ⟨.mv (.tmp 50), none, (some 31), [50]⟩]
def m11r4 : List MOper := [⟨.mv (.lit (.bool false)), none, (some 2), []⟩]
def m11r5 : List MOper := [⟨.faddr 6 (.tmp 1), none, (some 52), [1]⟩,
  ⟨.load none (.tmp 52), none, (some 53), [52]⟩,
  ⟨.len 0 (.tmp 53), none, (some 54), [53]⟩,
  ⟨.bin .gtr .other (.tmp 54) (.lit (.int .i64 255)), none, (some 55), [54]⟩,
  ⟨.mv (.tmp 55), none, (some 56), [55]⟩,
  ⟨.faddr 7 (.tmp 1), (some (56, false)), (some 57), [1]⟩,
  ⟨.load none (.tmp 57), (some (56, false)), (some 58), [57]⟩,
  ⟨.call 29 [(.tmp 58), (.lit (.int .i64 0)), (.lit (.int .i64 2147483647))], (some (56, false)), (some 59), [58]⟩,
  ⟨.un .not (.tmp 59), (some (56, false)), (some 60), [59]⟩,
  ⟨.pick (.tmp 56) (.lit (.bool true)) (.tmp 60), none, (some 61), [56, 60]⟩,
  ⟨.mv (.tmp 61), none, (some 62), [61]⟩,
  ⟨.faddr 7 (.tmp 1), (some (62, false)), (some 63), [1]⟩,
  ⟨.load none (.tmp 63), (some (62, false)), (some 64), [63]⟩,
  ⟨.bin .gtr .other (.tmp 64) (.lit (.int .i64 0)), (some (62, false)), (some 65), [64]⟩,
  ⟨.mv (.tmp 65), (some (62, false)), (some 66), [65]⟩,
  ⟨.faddr 6 (.tmp 1), (some (66, true)), (some 67), [1]⟩,
  ⟨.load none (.tmp 67), (some (66, true)), (some 68), [67]⟩,
  ⟨.bin .eql .other (.tmp 68) (.lit (.str [])), (some (66, true)), (some 69), [68]⟩,
  ⟨.mv (.tmp 69), (some (66, true)), (some 70), [69]⟩,
  ⟨.faddr 4 (.tmp 1), (some (70, false)), (some 71), [1]⟩,
  ⟨.load none (.tmp 71), (some (70, false)), (some 72), [71]⟩,
  ⟨.len 1 (.tmp 72), (some (70, false)), (some 73), [72]⟩,
  ⟨.bin .gtr .other (.tmp 73) (.lit (.int .i64 1)), (some (70, false)), (some 74), [73]⟩,
  ⟨.pick (.tmp 70) (.lit (.bool true)) (.tmp 74), (some (66, true)), (some 75), [70, 74]⟩,
  ⟨.pick (.tmp 66) (.tmp 75) (.lit (.bool false)), (some (62, false)), (some 76), [66, 75]⟩,
  ⟨.pick (.tmp 62) (.lit (.bool true)) (.tmp 76), none, (some 77), [62, 76]⟩,
  ⟨.mv (.tmp 77), none, (some 51), [77]⟩]
def m11r6 : List MOper := [⟨.mv (.lit (.bool false)), none, (some 2), []⟩]
def m11r7 : List MOper := [⟨.faddr 8 (.tmp 1), none, (some 79), [1]⟩,
  ⟨.load none (.tmp 79), none, (some 80), [79]⟩,
  ⟨.len 1 (.tmp 80), none, (some 81), [80]⟩,
  ⟨.bin .gtr .other (.tmp 81) (.lit (.int .i64 10)), none, (some 82), [81]⟩,
  ⟨.mv (.tmp 82), none, (some 83), [82]⟩,
  ⟨.faddr 8 (.tmp 1), (some (83, false)), (some 84), [1]⟩,
  ⟨.load none (.tmp 84), (some (83, false)), (some 85), [84]⟩,
  ⟨.call 30 [(.tmp 85), (.lit (.func 31 [] []))], (some (83, false)), (some 86), [85]⟩,
  ⟨.pick (.tmp 83) (.lit (.bool true)) (.tmp 86), none, (some 87), [83, 86]⟩,
  ⟨.mv (.tmp 87), none, (some 78), [87]⟩]
def m11r8 : List MOper := [⟨.mv (.lit (.bool false)), none, (some 2), []⟩]
def m11r9 : List MOper := [⟨.mkmap, none, (some 88), []⟩,
  ⟨.mv (.tmp 88), none, (some 3), [88]⟩]
def m11r10 : List MOper := [⟨.faddr 4 (.tmp 1), none, (some 89), [1]⟩,
  ⟨.load none (.tmp 89), none, (some 90), [89]⟩,
  ⟨.len 1 (.tmp 90), none, (some 91), [90]⟩,
  ⟨.mv (.lit (.int .i64 0)), none, (some 92), []⟩]
def m11r11 : List MOper := [⟨.bin .lss .other (.tmp 92) (.tmp 91), none, (some 93), [92, 91]⟩]
def m11r12 : List MOper := [⟨.iaddr 3 (.tmp 90) (.tmp 92), none, (some 94), [90, 92]⟩,
  ⟨.load (some 3) (.tmp 94), none, (some 95), [94]⟩,
  ⟨.zbox [(.str []), (.int .i64 0), (.int .i64 0)], none, (some 5), []⟩,
  ⟨.store 3 (.tmp 5) (.tmp 95), none, none, [5, 95]⟩]
def m11r13 : List MOper := [⟨.faddr 0 (.tmp 5), none, (some 96), [5]⟩,
  ⟨.load none (.tmp 96), none, (some 97), [96]⟩,
  ⟨.len 0 (.tmp 97), none, (some 98), [97]⟩,
  ⟨.call 29 [(.tmp 98), (.lit (.int .i64 1)), (.lit (.int .i64 1000))], none, (some 99), [98]⟩,
  ⟨.un .not (.tmp 99), none, (some 100), [99]⟩,
  ⟨.mv (.tmp 100), none, (some 101), [100]⟩,
  ⟨.faddr 1 (.tmp 5), (some (101, false)), (some 102), [5]⟩,
  ⟨.load none (.tmp 102), (some (101, false)), (some 103), [102]⟩,
  ⟨.call 29 [(.tmp 103), (.lit (.int .i64 0)), (.lit (.int .i64 1000))], (some (101, false)), (some 104), [103]⟩,
  ⟨.un .not (.tmp 104), (some (101, false)), (some 105), [104]⟩,
  ⟨.pick (.tmp 101) (.lit (.bool true)) (.tmp 105), none, (some 106), [101, 105]⟩,
  ⟨.mv (.tmp 106), none, (some 107), [106]⟩,
  ⟨.faddr 2 (.tmp 5), (some (107, false)), (some 108), [5]⟩,
  ⟨.load none (.tmp 108), (some (107, false)), (some 109), [108]⟩,
  ⟨.call 29 [(.tmp 109), (.lit (.int .i64 (-1))), (.lit (.int .i64 2147483647))], (some (107, false)), (some 110), [109]⟩,
  ⟨.un .not (.tmp 110), (some (107, false)), (some 111), [110]⟩,
  ⟨.pick (.tmp 107) (.lit (.bool true)) (.tmp 111), none, (some 112), [107, 111]⟩,
  ⟨.mv (.tmp 112), none, (some 113), [112]⟩,
  ⟨.mv (.tmp 3), (some (113, false)), (some 114), [3]⟩,
  ⟨.faddr 0 (.tmp 5), (some (113, false)), (some 115), [5]⟩,
  ⟨.load none (.tmp 115), (some (113, false)), (some 116), [115]⟩,
  ⟨.look 2 (.bool false) false (.tmp 114) (.tmp 116), (some (113, false)), (some 117), [114, 116]⟩,
  ⟨.pick (.tmp 113) (.lit (.bool true)) (.tmp 117), none, (some 118), [113, 117]⟩]
def m11r14 : List MOper := [⟨.mv (.lit (.bool false)), none, (some 2), []⟩]
def m11r15 : List MOper := [⟨.mv (.tmp 3), none, (some 119), [3]⟩,
  ⟨.faddr 0 (.tmp 5), none, (some 120), [5]⟩,
  ⟨.load none (.tmp 120), none, (some 121), [120]⟩,
  ⟨.mupd 2 (.tmp 119) (.tmp 121) (.lit (.bool true)), none, none, [119, 121]⟩]
def m11r16 : List MOper := [⟨.bin .add .other (.tmp 92) (.lit (.int .i64 1)), none, (some 122), [92]⟩,
  ⟨.mv (.tmp 122), none, (some 92), [122]⟩]
def m11l17 : MCode := (.seq (.region m11r11 [3, 90, 91, 92, 93])
  (.seq (.cond (.tmp 93)
  .skip
  (.exit 1))
  (.seq (.block 2 (.seq (.region m11r12 [3, 5, 90, 91, 92])
  (.seq (.seq (.region m11r13 [3, 5, 90, 91, 92, 118])
  (.cond (.tmp 118)
  (.seq (.region m11r14 [2])
  .ret)
  .skip))
  (.region m11r15 [3, 90, 91, 92]))))
  (.region m11r16 [3, 90, 91, 92]))))
def m11r18 : List MOper := [⟨.mv (.lit (.bool true)), none, (some 2), []⟩]
def m11 : MFunc := ⟨123, [.tmp 2],
  (.seq (.region m11r0 [1])
  (.seq (.block 0 (.seq (.region m11r1 [1, 6])
  (.cond (.tmp 6)
  (.seq (.region m11r2 [2])
  .ret)
  (.seq (.region m11r3 [1, 31])
  (.cond (.tmp 31)
  (.seq (.region m11r4 [2])
  .ret)
  (.seq (.region m11r5 [1, 51])
  (.cond (.tmp 51)
  (.seq (.region m11r6 [2])
  .ret)
  (.seq (.region m11r7 [1, 78])
  (.cond (.tmp 78)
  (.seq (.region m11r8 [2])
  .ret)
  .skip)))))))))
  (.seq (.region m11r9 [1, 3])
  (.seq (.seq (.region m11r10 [3, 90, 91, 92])
  (.block 1 (.loop [3, 90, 91, 92] m11l17)))
  (.seq (.region m11r18 [2])
  .ret)))))⟩
def h11 : List RH := [⟨[1], 0, false, []⟩, ⟨[1, 6], 0, false, []⟩, ⟨[2], 0, false, []⟩, ⟨[1, 31], 0, false, []⟩, ⟨[2], 0, false, []⟩, ⟨[1, 51], 0, false, []⟩, ⟨[2], 0, false, []⟩, ⟨[1, 78], 0, false, []⟩, ⟨[2], 0, false, []⟩, ⟨[1, 3], 0, false, []⟩, ⟨[3, 90, 91, 92], 0, false, []⟩, ⟨[3, 90, 91, 92], 0, false, []⟩, ⟨[3, 90, 91, 92, 93], 0, false, []⟩, ⟨[3, 5, 90, 91, 92], 0, false, []⟩, ⟨[3, 5, 90, 91, 92, 118], 0, false, []⟩, ⟨[2], 0, false, []⟩, ⟨[3, 90, 91, 92], 0, false, []⟩, ⟨[3, 90, 91, 92], 0, false, []⟩, ⟨[2], 0, false, []⟩]
theorem m11_ok : cmpFn Try.prog 11 h11 = some m11 := by kernel_rfl

/- dialtone/registrar.EncodeAct -/
def m13r0 : List MOper := [⟨.box 9 (.tmp 1), none, (some 3), [1]⟩,
  ⟨.mv (.lit .nils), none, (some 4), []⟩,
  ⟨.mv (.lit (.int .u8 0)), none, (some 5), []⟩]
def m13r1 : List MOper := [⟨.load (some 9) (.tmp 3), none, (some 12), [3]⟩,
  ⟨.call 11 [(.tmp 12)], none, (some 13), [12]⟩,
  ⟨.un .not (.tmp 13), none, (some 14), [13]⟩,
  ⟨.mv (.tmp 14), none, (some 15), [14]⟩,
  ⟨.mv (.tmp 0), (some (15, false)), (some 16), [0]⟩,
  ⟨.call 29 [(.tmp 16), (.lit (.int .i64 0)), (.lit (.int .i64 1099511627776))], (some (15, false)), (some 17), [16]⟩,
  ⟨.un .not (.tmp 17), (some (15, false)), (some 18), [17]⟩,
  ⟨.pick (.tmp 15) (.lit (.bool true)) (.tmp 18), none, (some 19), [15, 18]⟩]
def m13r2 : List MOper := [⟨.mv (.lit .nils), none, (some 4), []⟩,
  ⟨.mv (.lit (.int .u8 2)), none, (some 5), []⟩]
def m13r3 : List MOper := [⟨.mv (.tmp 0), none, (some 20), [0]⟩,
  ⟨.faddr 0 (.tmp 3), none, (some 22), [3]⟩,
  ⟨.load none (.tmp 22), none, (some 23), [22]⟩,
  ⟨.faddr 1 (.tmp 3), none, (some 25), [3]⟩,
  ⟨.load none (.tmp 25), none, (some 26), [25]⟩]
def m13r4 : List MOper := [⟨.call 34 [(.lit .nils), (.tmp 20), (.lit (.int .i64 8))], none, (some 21), [20]⟩,
  ⟨.call 33 [(.tmp 21), (.tmp 23)], none, (some 24), [21, 23]⟩,
  ⟨.call 33 [(.tmp 24), (.tmp 26)], none, (some 27), [24, 26]⟩,
  ⟨.mv (.tmp 27), none, (some 6), [27]⟩]
def m13r5 : List MOper := [⟨.load none (.tmp 22), none, (some 23), [22]⟩,
  ⟨.load none (.tmp 25), none, (some 26), [25]⟩]
def m13r6 : List MOper := [⟨.load none (.tmp 22), none, (some 23), [22]⟩,
  ⟨.load none (.tmp 25), none, (some 26), [25]⟩]
def m13r7 : List MOper := [⟨.load none (.tmp 25), none, (some 26), [25]⟩]
def m13r8 : List MOper := [⟨.mv (.tmp 6), none, (some 28), [6]⟩,
  ⟨.faddr 2 (.tmp 3), none, (some 29), [3]⟩,
  ⟨.load none (.tmp 29), none, (some 30), [29]⟩,
  ⟨.call 34 [(.tmp 28), (.tmp 30), (.lit (.int .i64 4))], none, (some 31), [28, 30]⟩,
  ⟨.mv (.tmp 31), none, (some 6), [31]⟩]
def m13r9 : List MOper := [⟨.mv (.lit (.int .i64 0)), none, (some 7), []⟩]
def m13r10 : List MOper := [⟨.faddr 3 (.tmp 3), none, (some 32), [3]⟩,
  ⟨.load none (.tmp 32), none, (some 33), [32]⟩]
def m13r11 : List MOper := [⟨.mv (.lit (.int .i64 1)), none, (some 7), []⟩]
def m13r12 : List MOper := [⟨.mv (.tmp 6), none, (some 34), [6]⟩,
  ⟨.mv (.tmp 7), none, (some 35), [7]⟩,
  ⟨.faddr 5 (.tmp 3), none, (some 37), [3]⟩,
  ⟨.load none (.tmp 37), none, (some 38), [37]⟩]
def m13r13 : List MOper := [⟨.call 34 [(.tmp 34), (.tmp 35), (.lit (.int .i64 1))], none, (some 36), [34, 35]⟩,
  ⟨.call 34 [(.tmp 36), (.tmp 38), (.lit (.int .i64 4))], none, (some 39), [36, 38]⟩,
  ⟨.mv (.tmp 39), none, (some 6), [39]⟩]
def m13r14 : List MOper := [⟨.load none (.tmp 37), none, (some 38), [37]⟩]
def m13r15 : List MOper := [⟨.load none (.tmp 37), none, (some 38), [37]⟩]
def m13r16 : List MOper := [⟨.mv (.tmp 6), none, (some 40), [6]⟩,
  ⟨.faddr 6 (.tmp 3), none, (some 41), [3]⟩,
  ⟨.load none (.tmp 41), none, (some 42), [41]⟩,
  ⟨.faddr 7 (.tmp 3), none, (some 44), [3]⟩,
  ⟨.load none (.tmp 44), none, (some 45), [44]⟩]
def m13r17 : List MOper := [⟨.call 33 [(.tmp 40), (.tmp 42)], none, (some 43), [40, 42]⟩,
  ⟨.call 34 [(.tmp 43), (.tmp 45), (.lit (.int .i64 4))], none, (some 46), [43, 45]⟩,
  ⟨.mv (.tmp 46), none, (some 6), [46]⟩]
def m13r18 : List MOper := [⟨.load none (.tmp 44), none, (some 45), [44]⟩]
def m13r19 : List MOper := [⟨.load none (.tmp 44), none, (some 45), [44]⟩]
def m13r20 : List MOper := [⟨.mv (.tmp 6), none, (some 47), [6]⟩,
  ⟨.faddr 4 (.tmp 3), none, (some 48), [3]⟩,
  ⟨.load none (.tmp 48), none, (some 49), [48]⟩,
  ⟨.len 1 (.tmp 49), none, (some 50), [49]⟩,
  ⟨.call 34 [(.tmp 47), (.tmp 50), (.lit (.int .i64 1))], none, (some 51), [47, 50]⟩,
  ⟨.mv (.tmp 51), none, (some 6), [51]⟩]
def m13r21 : List MOper := [⟨.faddr 4 (.tmp 3), none, (some 52), [3]⟩,
  ⟨.load none (.tmp 52), none, (some 53), [52]⟩,
  ⟨.len 1 (.tmp 53), none, (some 54), [53]⟩,
  ⟨.mv (.lit (.int .i64 0)), none, (some 55), []⟩]
def m13r22 : List MOper := [⟨.bin .lss .other (.tmp 55) (.tmp 54), none, (some 56), [55, 54]⟩]
def m13r23 : List MOper := [⟨.iaddr 3 (.tmp 53) (.tmp 55), none, (some 57), [53, 55]⟩,
  ⟨.load (some 3) (.tmp 57), none, (some 58), [57]⟩,
  ⟨.zbox [(.str []), (.int .i64 0), (.int .i64 0)], none, (some 9), []⟩,
  ⟨.store 3 (.tmp 9) (.tmp 58), none, none, [9, 58]⟩]
def m13r24 : List MOper := [⟨.mv (.tmp 6), none, (some 59), [6]⟩,
  ⟨.faddr 0 (.tmp 9), none, (some 60), [9]⟩,
  ⟨.load none (.tmp 60), none, (some 61), [60]⟩,
  ⟨.faddr 1 (.tmp 9), none, (some 63), [9]⟩,
  ⟨.load none (.tmp 63), none, (some 64), [63]⟩,
  ⟨.faddr 2 (.tmp 9), none, (some 66), [9]⟩,
  ⟨.load none (.tmp 66), none, (some 67), [66]⟩]
def m13r25 : List MOper := [⟨.call 33 [(.tmp 59), (.tmp 61)], none, (some 62), [59, 61]⟩,
  ⟨.call 34 [(.tmp 62), (.tmp 64), (.lit (.int .i64 2))], none, (some 65), [62, 64]⟩,
  ⟨.call 34 [(.tmp 65), (.tmp 67), (.lit (.int .i64 4))], none, (some 68), [65, 67]⟩,
  ⟨.mv (.tmp 68), none, (some 6), [68]⟩]
def m13r26 : List MOper := [⟨.load none (.tmp 63), none, (some 64), [63]⟩,
  ⟨.load none (.tmp 66), none, (some 67), [66]⟩]
def m13r27 : List MOper := [⟨.load none (.tmp 63), none, (some 64), [63]⟩,
  ⟨.load none (.tmp 66), none, (some 67), [66]⟩]
def m13r28 : List MOper := [⟨.load none (.tmp 66), none, (some 67), [66]⟩]
def m13r29 : List MOper := [⟨.bin .add .other (.tmp 55) (.lit (.int .i64 1)), none, (some 69), [55]⟩,
  ⟨.mv (.tmp 69), none, (some 55), [69]⟩]
def m13l30 : MCode := (.seq (.region m13r22 [3, 6, 53, 54, 55, 56])
  (.seq (.cond (.tmp 56)
  .skip
  (.exit 0))
  (.seq (.block 1 (.seq (.region m13r23 [3, 6, 9, 53, 54, 55])
  (.dregion m13r24 m13r25 [m13r26, m13r27, m13r28, [], []] [3, 6, 53, 54, 55])))
  (.region m13r29 [3, 6, 53, 54, 55]))))
def m13r31 : List MOper := [⟨.mv (.tmp 6), none, (some 70), [6]⟩,
  ⟨.faddr 8 (.tmp 3), none, (some 71), [3]⟩,
  ⟨.load none (.tmp 71), none, (some 72), [71]⟩,
  ⟨.len 1 (.tmp 72), none, (some 73), [72]⟩,
  ⟨.call 34 [(.tmp 70), (.tmp 73), (.lit (.int .i64 1))], none, (some 74), [70, 73]⟩,
  ⟨.mv (.tmp 74), none, (some 6), [74]⟩]
def m13r32 : List MOper := [⟨.faddr 8 (.tmp 3), none, (some 75), [3]⟩,
  ⟨.load none (.tmp 75), none, (some 76), [75]⟩,
  ⟨.len 1 (.tmp 76), none, (some 77), [76]⟩,
  ⟨.mv (.lit (.int .i64 0)), none, (some 78), []⟩]
def m13r33 : List MOper := [⟨.bin .lss .other (.tmp 78) (.tmp 77), none, (some 79), [78, 77]⟩]
def m13r34 : List MOper := [⟨.iaddr 1 (.tmp 76) (.tmp 78), none, (some 80), [76, 78]⟩,
  ⟨.load none (.tmp 80), none, (some 81), [80]⟩,
  ⟨.mv (.tmp 81), none, (some 11), [81]⟩]
def m13r35 : List MOper := [⟨.mv (.tmp 6), none, (some 82), [6]⟩,
  ⟨.mv (.tmp 11), none, (some 83), [11]⟩,
  ⟨.call 33 [(.tmp 82), (.tmp 83)], none, (some 84), [82, 83]⟩,
  ⟨.mv (.tmp 84), none, (some 6), [84]⟩]
def m13r36 : List MOper := [⟨.bin .add .other (.tmp 78) (.lit (.int .i64 1)), none, (some 85), [78]⟩,
  ⟨.mv (.tmp 85), none, (some 78), [85]⟩]
def m13l37 : MCode := (.seq (.region m13r33 [6, 76, 77, 78, 79])
  (.seq (.cond (.tmp 79)
  .skip
  (.exit 2))
  (.seq (.block 3 (.seq (.region m13r34 [6, 11, 76, 77, 78])
  (.region m13r35 [6, 76, 77, 78])))
  (.region m13r36 [6, 76, 77, 78]))))
def m13r38 : List MOper := [⟨.mv (.tmp 6), none, (some 86), [6]⟩,
  ⟨.len 1 (.tmp 86), none, (some 87), [86]⟩,
  ⟨.bin .gtr .other (.tmp 87) (.lit (.int .i64 4096)), none, (some 88), [87]⟩]
def m13r39 : List MOper := [⟨.mv (.lit .nils), none, (some 4), []⟩,
  ⟨.mv (.lit (.int .u8 4)), none, (some 5), []⟩]
def m13r40 : List MOper := [⟨.mv (.tmp 6), none, (some 89), [6]⟩,
  ⟨.mv (.tmp 89), none, (some 4), [89]⟩,
  ⟨.mv (.lit (.int .u8 0)), none, (some 5), []⟩]
def m13 : MFunc := ⟨90, [.tmp 4, .tmp 5],
  (.seq (.region m13r0 [0, 3])
  (.seq (.seq (.region m13r1 [0, 3, 19])
  (.cond (.tmp 19)
  (.seq (.region m13r2 [4, 5])
  .ret)
  .skip))
  (.seq (.dregion m13r3 m13r4 [m13r5, m13r6, m13r7, [], []] [3, 6])
  (.seq (.region m13r8 [3, 6])
  (.seq (.region m13r9 [3, 6, 7])
  (.seq (.seq (.region m13r10 [3, 6, 7, 33])
  (.cond (.tmp 33)
  (.region m13r11 [3, 6, 7])
  .skip))
  (.seq (.dregion m13r12 m13r13 [m13r14, m13r15, [], []] [3, 6])
  (.seq (.dregion m13r16 m13r17 [m13r18, m13r19, [], []] [3, 6])
  (.seq (.region m13r20 [3, 6])
  (.seq (.seq (.region m13r21 [3, 6, 53, 54, 55])
  (.block 0 (.loop [3, 6, 53, 54, 55] m13l30)))
  (.seq (.region m13r31 [3, 6])
  (.seq (.seq (.region m13r32 [6, 76, 77, 78])
  (.block 2 (.loop [6, 76, 77, 78] m13l37)))
  (.seq (.seq (.region m13r38 [6, 88])
  (.cond (.tmp 88)
  (.seq (.region m13r39 [4, 5])
  .ret)
  .skip))
  (.seq (.region m13r40 [4, 5])
  .ret))))))))))))))⟩
def h13 : List RH := [⟨[0, 3], 0, false, []⟩, ⟨[0, 3, 19], 0, false, []⟩, ⟨[4, 5], 0, false, []⟩, ⟨[3, 6], 5, false, [0, 2, 3, 5, 6, 1, 4, 7, 8]⟩, ⟨[3, 6], 0, false, []⟩, ⟨[3, 6, 7], 0, false, []⟩, ⟨[3, 6, 7, 33], 0, false, []⟩, ⟨[3, 6, 7], 0, false, []⟩, ⟨[3, 6], 4, false, [0, 1, 3, 4, 2, 5, 6]⟩, ⟨[3, 6], 5, false, [0, 1, 2, 4, 5, 3, 6, 7]⟩, ⟨[3, 6], 0, false, []⟩, ⟨[3, 6, 53, 54, 55], 0, false, []⟩, ⟨[3, 6, 53, 54, 55], 0, false, []⟩, ⟨[3, 6, 53, 54, 55, 56], 0, false, []⟩, ⟨[3, 6, 9, 53, 54, 55], 0, false, []⟩, ⟨[3, 6, 53, 54, 55], 7, false, [0, 1, 2, 4, 5, 7, 8, 3, 6, 9, 10]⟩, ⟨[3, 6, 53, 54, 55], 0, false, []⟩, ⟨[3, 6], 0, false, []⟩, ⟨[6, 76, 77, 78], 0, false, []⟩, ⟨[6, 76, 77, 78], 0, false, []⟩, ⟨[6, 76, 77, 78, 79], 0, false, []⟩, ⟨[6, 11, 76, 77, 78], 0, false, []⟩, ⟨[6, 76, 77, 78], 0, false, []⟩, ⟨[6, 76, 77, 78], 0, false, []⟩, ⟨[6, 88], 0, false, []⟩, ⟨[4, 5], 0, false, []⟩, ⟨[4, 5], 0, false, []⟩]
theorem m13_ok : cmpFn Try.prog 13 h13 = some m13 := by kernel_rfl

/- dialtone/registrar.DecodeAct -/
def m15r0 : List MOper := [⟨.box 1 (.tmp 0), none, (some 1), [0]⟩,
  ⟨.mv (.lit (.int .i64 0)), none, (some 2), []⟩,
  ⟨.zbox [(.str []), (.str []), (.int .i64 0), (.bool false), .nils, (.int .i64 0), (.str []), (.int .i64 0), .nils], none, (some 3), []⟩,
  ⟨.mv (.lit (.int .u8 0)), none, (some 4), []⟩]
def m15r1 : List MOper := [⟨.zbox [(.bool false)], none, (some 5), []⟩,
  ⟨.store 1 (.tmp 5) (.lit (.bool false)), none, none, [5]⟩]
def m15r2 : List MOper := [⟨.mkfn 37 [] [(.tmp 5), (.tmp 1)], none, (some 14), [5, 1]⟩,
  ⟨.zbox [.nilf], none, (some 6), []⟩,
  ⟨.store 1 (.tmp 6) (.tmp 14), none, none, [6, 14]⟩]
def m15r3 : List MOper := [⟨.mkfn 38 [] [(.tmp 6), (.tmp 5), (.tmp 1)], none, (some 15), [6, 5, 1]⟩,
  ⟨.mv (.tmp 15), none, (some 7), [15]⟩]
def m15r4 : List MOper := [⟨.mkfn 39 [] [(.tmp 6)], none, (some 16), [6]⟩,
  ⟨.mv (.tmp 16), none, (some 8), [16]⟩]
def m15r5 : List MOper := [⟨.load none (.tmp 6), none, (some 17), [6]⟩,
  ⟨.callv (.tmp 17) [(.lit (.int .i64 8))], none, (some 18), [17]⟩,
  ⟨.mv (.tmp 18), none, (some 9), [18]⟩]
def m15r6 : List MOper := [⟨.mv (.tmp 7), none, (some 19), [7]⟩,
  ⟨.callv (.tmp 19) [], none, (some 20), [19]⟩,
  ⟨.mv (.tmp 7), none, (some 21), [7]⟩,
  ⟨.callv (.tmp 21) [], none, (some 22), [21]⟩,
  ⟨.mv (.tmp 8), none, (some 23), [8]⟩,
  ⟨.callv (.tmp 23) [], none, (some 24), [23]⟩,
  ⟨.build [(.str []), (.str []), (.int .i64 0), (.bool false), .nils, (.int .i64 0), (.str []), (.int .i64 0), .nils] [(0, 1, (.tmp 20)), (1, 1, (.tmp 22)), (2, 1, (.tmp 24))], none, (some 25), [20, 22, 24]⟩,
  ⟨.zbox [(.str []), (.str []), (.int .i64 0), (.bool false), .nils, (.int .i64 0), (.str []), (.int .i64 0), .nils], none, (some 10), []⟩,
  ⟨.store 9 (.tmp 10) (.tmp 25), none, none, [10, 25]⟩]
def m15r7 : List MOper := [⟨.load none (.tmp 6), none, (some 26), [6]⟩,
  ⟨.callv (.tmp 26) [(.lit (.int .i64 1))], none, (some 27), [26]⟩,
  ⟨.mv (.tmp 27), none, (some 11), [27]⟩]
def m15r8 : List MOper := [⟨.mv (.tmp 11), none, (some 28), [11]⟩,
  ⟨.bin .eql .other (.tmp 28) (.lit (.int .i64 1)), none, (some 29), [28]⟩,
  ⟨.faddr 3 (.tmp 10), none, (some 30), [10]⟩,
  ⟨.store 1 (.tmp 30) (.tmp 29), none, none, [30, 29]⟩]
def m15r9 : List MOper := [⟨.mv (.tmp 8), none, (some 31), [8]⟩,
  ⟨.callv (.tmp 31) [], none, (some 32), [31]⟩,
  ⟨.mv (.tmp 7), none, (some 33), [7]⟩,
  ⟨.callv (.tmp 33) [], none, (some 34), [33]⟩,
  ⟨.mv (.tmp 8), none, (some 35), [8]⟩,
  ⟨.callv (.tmp 35) [], none, (some 36), [35]⟩,
  ⟨.faddr 5 (.tmp 10), none, (some 37), [10]⟩,
  ⟨.store 1 (.tmp 37) (.tmp 32), none, none, [37, 32]⟩,
  ⟨.faddr 6 (.tmp 10), none, (some 38), [10]⟩,
  ⟨.store 1 (.tmp 38) (.tmp 34), none, none, [38, 34]⟩,
  ⟨.faddr 7 (.tmp 10), none, (some 39), [10]⟩,
  ⟨.store 1 (.tmp 39) (.tmp 36), none, none, [39, 36]⟩]
def m15r10 : List MOper := [⟨.load none (.tmp 6), none, (some 40), [6]⟩,
  ⟨.callv (.tmp 40) [(.lit (.int .i64 1))], none, (some 41), [40]⟩,
  ⟨.mv (.tmp 41), none, (some 12), [41]⟩]
def m15r11 : List MOper := [⟨.mv (.tmp 12), none, (some 42), [12]⟩,
  ⟨.bin .gtr .other (.tmp 42) (.lit (.int .i64 0)), none, (some 43), [42]⟩,
  ⟨.mv (.tmp 43), none, (some 44), [43]⟩,
  ⟨.load none (.tmp 5), (some (44, true)), (some 45), [5]⟩,
  ⟨.un .not (.tmp 45), (some (44, true)), (some 46), [45]⟩,
  ⟨.pick (.tmp 44) (.tmp 46) (.lit (.bool false)), none, (some 47), [44, 46]⟩]
def m15r12 : List MOper := [⟨.faddr 4 (.tmp 10), none, (some 50), [10]⟩,
  ⟨.load none (.tmp 50), none, (some 51), [50]⟩,
  ⟨.mv (.tmp 7), none, (some 52), [7]⟩,
  ⟨.load none (.tmp 6), none, (some 54), [6]⟩,
  ⟨.mv (.tmp 8), none, (some 56), [8]⟩]
def m15r13 : List MOper := [⟨.callv (.tmp 52) [], none, (some 53), [52]⟩,
  ⟨.callv (.tmp 54) [(.lit (.int .i64 2))], none, (some 55), [54]⟩,
  ⟨.callv (.tmp 56) [], none, (some 57), [56]⟩,
  ⟨.build [(.str []), (.int .i64 0), (.int .i64 0)] [(0, 1, (.tmp 53)), (1, 1, (.tmp 55)), (2, 1, (.tmp 57))], none, (some 58), [53, 55, 57]⟩,
  ⟨.mkfrz [(.str []), (.int .i64 0), (.int .i64 0)] 1 [(0, (.tmp 58))], none, (some 59), [58]⟩,
  ⟨.append 3 32 (.tmp 51) (.tmp 59), none, (some 60), [51, 59]⟩,
  ⟨.faddr 4 (.tmp 10), none, (some 61), [10]⟩,
  ⟨.store 1 (.tmp 61) (.tmp 60), none, none, [61, 60]⟩]
def m15r14 : List MOper := [⟨.load none (.tmp 50), none, (some 51), [50]⟩,
  ⟨.load none (.tmp 6), none, (some 54), [6]⟩]
def m15r15 : List MOper := [⟨.load none (.tmp 50), none, (some 51), [50]⟩,
  ⟨.load none (.tmp 6), none, (some 54), [6]⟩]
def m15r16 : List MOper := [⟨.load none (.tmp 50), none, (some 51), [50]⟩]
def m15r17 : List MOper := [⟨.load none (.tmp 50), none, (some 51), [50]⟩]
def m15r18 : List MOper := [⟨.load none (.tmp 50), none, (some 51), [50]⟩]
def m15r19 : List MOper := [⟨.load none (.tmp 50), none, (some 51), [50]⟩]
def m15r20 : List MOper := [⟨.mv (.tmp 12), none, (some 48), [12]⟩,
  ⟨.bin .sub .other (.tmp 48) (.lit (.int .i64 1)), none, (some 49), [48]⟩,
  ⟨.mv (.tmp 49), none, (some 12), [49]⟩]
def m15l21 : MCode := (.seq (.seq (.region m15r11 [1, 3, 5, 6, 7, 8, 9, 10, 11, 12, 47])
  (.cond (.tmp 47)
  .skip
  (.exit 0)))
  (.seq (.block 1 (.dregion m15r12 m15r13 [m15r14, m15r15, m15r16, m15r17, m15r18, m15r19, [], [], []] [1, 3, 5, 6, 7, 8, 9, 10, 11, 12]))
  (.region m15r20 [1, 3, 5, 6, 7, 8, 9, 10, 11, 12])))
def m15r22 : List MOper := [⟨.load none (.tmp 6), none, (some 62), [6]⟩,
  ⟨.callv (.tmp 62) [(.lit (.int .i64 1))], none, (some 63), [62]⟩,
  ⟨.mv (.tmp 63), none, (some 13), [63]⟩]
def m15r23 : List MOper := [⟨.mv (.tmp 13), none, (some 64), [13]⟩,
  ⟨.bin .gtr .other (.tmp 64) (.lit (.int .i64 0)), none, (some 65), [64]⟩,
  ⟨.mv (.tmp 65), none, (some 66), [65]⟩,
  ⟨.load none (.tmp 5), (some (66, true)), (some 67), [5]⟩,
  ⟨.un .not (.tmp 67), (some (66, true)), (some 68), [67]⟩,
  ⟨.pick (.tmp 66) (.tmp 68) (.lit (.bool false)), none, (some 69), [66, 68]⟩]
def m15r24 : List MOper := [⟨.faddr 8 (.tmp 10), none, (some 72), [10]⟩,
  ⟨.load none (.tmp 72), none, (some 73), [72]⟩]
def m15r25 : List MOper := [⟨.mv (.tmp 7), none, (some 74), [7]⟩,
  ⟨.callv (.tmp 74) [], none, (some 75), [74]⟩,
  ⟨.mkfrz [(.str [])] 1 [(0, (.tmp 75))], none, (some 76), [75]⟩,
  ⟨.append 1 16 (.tmp 73) (.tmp 76), none, (some 77), [73, 76]⟩,
  ⟨.faddr 8 (.tmp 10), none, (some 78), [10]⟩,
  ⟨.store 1 (.tmp 78) (.tmp 77), none, none, [78, 77]⟩]
def m15r26 : List MOper := [⟨.load none (.tmp 72), none, (some 73), [72]⟩]
def m15r27 : List MOper := [⟨.load none (.tmp 72), none, (some 73), [72]⟩]
def m15r28 : List MOper := [⟨.load none (.tmp 72), none, (some 73), [72]⟩]
def m15r29 : List MOper := [⟨.load none (.tmp 72), none, (some 73), [72]⟩]
def m15r30 : List MOper := [⟨.mv (.tmp 13), none, (some 70), [13]⟩,
  ⟨.bin .sub .other (.tmp 70) (.lit (.int .i64 1)), none, (some 71), [70]⟩,
  ⟨.mv (.tmp 71), none, (some 13), [71]⟩]
def m15l31 : MCode := (.seq (.seq (.region m15r23 [1, 3, 5, 7, 9, 10, 11, 13, 69])
  (.cond (.tmp 69)
  .skip
  (.exit 2)))
  (.seq (.block 3 (.dregion m15r24 m15r25 [m15r26, m15r27, m15r28, m15r29, [], [], []] [1, 3, 5, 7, 9, 10, 11, 13]))
  (.region m15r30 [1, 3, 5, 7, 9, 10, 11, 13])))
def m15r32 : List MOper := [⟨.load none (.tmp 5), none, (some 79), [5]⟩]
def m15r33 : List MOper := [⟨.build [(.str []), (.str []), (.int .i64 0), (.bool false), .nils, (.int .i64 0), (.str []), (.int .i64 0), .nils] [], none, (some 80), []⟩,
  ⟨.mv (.lit (.int .i64 0)), none, (some 2), []⟩,
  ⟨.store 9 (.tmp 3) (.tmp 80), none, none, [3, 80]⟩,
  ⟨.mv (.lit (.int .u8 6)), none, (some 4), []⟩]
def m15r34 : List MOper := [⟨.load none (.tmp 1), none, (some 81), [1]⟩,
  ⟨.len 1 (.tmp 81), none, (some 82), [81]⟩,
  ⟨.bin .gtr .other (.tmp 82) (.lit (.int .i64 0)), none, (some 83), [82]⟩,
  ⟨.mv (.tmp 83), none, (some 84), [83]⟩,
  ⟨.mv (.tmp 11), (some (84, false)), (some 85), [11]⟩,
  ⟨.bin .gtr .other (.tmp 85) (.lit (.int .i64 1)), (some (84, false)), (some 86), [85]⟩,
  ⟨.pick (.tmp 84) (.lit (.bool true)) (.tmp 86), none, (some 87), [84, 86]⟩,
  ⟨.mv (.tmp 87), none, (some 88), [87]⟩,
  ⟨.load (some 9) (.tmp 10), (some (88, false)), (some 89), [10]⟩,
  ⟨.call 11 [(.tmp 89)], (some (88, false)), (some 90), [89]⟩,
  ⟨.un .not (.tmp 90), (some (88, false)), (some 91), [90]⟩,
  ⟨.pick (.tmp 88) (.lit (.bool true)) (.tmp 91), none, (some 92), [88, 91]⟩,
  ⟨.mv (.tmp 92), none, (some 93), [92]⟩,
  ⟨.mv (.tmp 9), (some (93, false)), (some 94), [9]⟩,
  ⟨.call 29 [(.tmp 94), (.lit (.int .i64 0)), (.lit (.int .i64 1099511627776))], (some (93, false)), (some 95), [94]⟩,
  ⟨.un .not (.tmp 95), (some (93, false)), (some 96), [95]⟩,
  ⟨.pick (.tmp 93) (.lit (.bool true)) (.tmp 96), none, (some 97), [93, 96]⟩]
def m15r35 : List MOper := [⟨.build [(.str []), (.str []), (.int .i64 0), (.bool false), .nils, (.int .i64 0), (.str []), (.int .i64 0), .nils] [], none, (some 98), []⟩,
  ⟨.mv (.lit (.int .i64 0)), none, (some 2), []⟩,
  ⟨.store 9 (.tmp 3) (.tmp 98), none, none, [3, 98]⟩,
  ⟨.mv (.lit (.int .u8 5)), none, (some 4), []⟩]
def m15r36 : List MOper := [⟨.mv (.tmp 9), none, (some 99), [9]⟩,
  ⟨.load (some 9) (.tmp 10), none, (some 100), [10]⟩]
def m15r37 : List MOper := [⟨.mv (.tmp 99), none, (some 2), [99]⟩,
  ⟨.store 9 (.tmp 3) (.tmp 100), none, none, [3, 100]⟩,
  ⟨.mv (.lit (.int .u8 0)), none, (some 4), []⟩]
def m15r38 : List MOper := [⟨.load (some 9) (.tmp 10), none, (some 100), [10]⟩]
def m15r39 : List MOper := [⟨.load (some 9) (.tmp 10), none, (some 100), [10]⟩]
def m15 : MFunc := ⟨101, [.tmp 2, .cell 3 (some 9), .tmp 4],
  (.seq (.region m15r0 [1, 3])
  (.seq (.region m15r1 [1, 3, 5])
  (.seq (.region m15r2 [1, 3, 5, 6])
  (.seq (.region m15r3 [1, 3, 5, 6, 7])
  (.seq (.region m15r4 [1, 3, 5, 6, 7, 8])
  (.seq (.region m15r5 [1, 3, 5, 6, 7, 8, 9])
  (.seq (.region m15r6 [1, 3, 5, 6, 7, 8, 9, 10])
  (.seq (.region m15r7 [1, 3, 5, 6, 7, 8, 9, 10, 11])
  (.seq (.region m15r8 [1, 3, 5, 6, 7, 8, 9, 10, 11])
  (.seq (.region m15r9 [1, 3, 5, 6, 7, 8, 9, 10, 11])
  (.seq (.seq (.region m15r10 [1, 3, 5, 6, 7, 8, 9, 10, 11, 12])
  (.block 0 (.loop [1, 3, 5, 6, 7, 8, 9, 10, 11, 12] m15l21)))
  (.seq (.seq (.region m15r22 [1, 3, 5, 7, 9, 10, 11, 13])
  (.block 2 (.loop [1, 3, 5, 7, 9, 10, 11, 13] m15l31)))
  (.seq (.seq (.region m15r32 [1, 3, 9, 10, 11, 79])
  (.cond (.tmp 79)
  (.seq (.region m15r33 [2, 3, 4])
  .ret)
  .skip))
  (.seq (.seq (.region m15r34 [3, 9, 10, 97])
  (.cond (.tmp 97)
  (.seq (.region m15r35 [2, 3, 4])
  .ret)
  .skip))
  (.seq (.dregion m15r36 m15r37 [m15r38, m15r39, [], []] [2, 3, 4])
  .ret)))))))))))))))⟩
def h15 : List RH := [⟨[1, 3], 0, false, []⟩, ⟨[1, 3, 5], 0, false, []⟩, ⟨[1, 3, 5, 6], 0, false, []⟩, ⟨[1, 3, 5, 6, 7], 0, false, []⟩, ⟨[1, 3, 5, 6, 7, 8], 0, false, []⟩, ⟨[1, 3, 5, 6, 7, 8, 9], 0, false, []⟩, ⟨[1, 3, 5, 6, 7, 8, 9, 10], 0, false, []⟩, ⟨[1, 3, 5, 6, 7, 8, 9, 10, 11], 0, false, []⟩, ⟨[1, 3, 5, 6, 7, 8, 9, 10, 11], 0, false, []⟩, ⟨[1, 3, 5, 6, 7, 8, 9, 10, 11], 0, false, []⟩, ⟨[1, 3, 5, 6, 7, 8, 9, 10, 11, 12], 0, false, []⟩, ⟨[1, 3, 5, 6, 7, 8, 9, 10, 11, 12], 0, false, []⟩, ⟨[1, 3, 5, 6, 7, 8, 9, 10, 11, 12, 47], 0, false, []⟩, ⟨[1, 3, 5, 6, 7, 8, 9, 10, 11, 12], 5, false, [0, 1, 2, 4, 6, 3, 5, 7, 8, 9, 10, 11, 12]⟩, ⟨[1, 3, 5, 6, 7, 8, 9, 10, 11, 12], 0, false, []⟩, ⟨[1, 3, 5, 7, 9, 10, 11, 13], 0, false, []⟩, ⟨[1, 3, 5, 7, 9, 10, 11, 13], 0, false, []⟩, ⟨[1, 3, 5, 7, 9, 10, 11, 13, 69], 0, false, []⟩, ⟨[1, 3, 5, 7, 9, 10, 11, 13], 2, false, []⟩, ⟨[1, 3, 5, 7, 9, 10, 11, 13], 0, false, []⟩, ⟨[1, 3, 9, 10, 11, 79], 0, false, []⟩, ⟨[2, 3, 4], 0, false, []⟩, ⟨[3, 9, 10, 97], 0, false, []⟩, ⟨[2, 3, 4], 0, false, []⟩, ⟨[2, 3, 4], 2, false, []⟩]
theorem m15_ok : cmpFn Try.prog 15 h15 = some m15 := by kernel_rfl

/- dialtone/registrar.New -/
def m18r0 : List MOper := [⟨.box 4 (.tmp 0), none, (some 1), [0]⟩,
  ⟨.mv (.lit .nilp), none, (some 2), []⟩,
  ⟨.mv (.lit (.int .u8 0)), none, (some 3), []⟩]
def m18r1 : List MOper := [⟨.load (some 4) (.tmp 1), none, (some 4), [1]⟩,
  ⟨.call 9 [(.tmp 4)], none, (some 5), [4]⟩,
  ⟨.un .not (.tmp 5), none, (some 6), [5]⟩]
def m18r2 : List MOper := [⟨.mv (.lit .nilp), none, (some 2), []⟩,
  ⟨.mv (.lit (.int .u8 2)), none, (some 3), []⟩]
def m18r3 : List MOper := [⟨.load (some 4) (.tmp 1), none, (some 7), [1]⟩,
  ⟨.build [(.bool false), (.int .i64 0), (.int .i64 0), (.int .i64 0), (.int .i64 0), .nils, .nils, (.int .i64 0), (.int .i64 0), (.int .i64 0)] [(0, 1, (.lit (.bool true))), (1, 4, (.tmp 7))], none, (some 8), [7]⟩,
  ⟨.box 10 (.tmp 8), none, (some 9), [8]⟩,
  ⟨.mv (.tmp 9), none, (some 2), [9]⟩,
  ⟨.mv (.lit (.int .u8 0)), none, (some 3), []⟩]
def m18 : MFunc := ⟨10, [.tmp 2, .tmp 3],
  (.seq (.region m18r0 [1])
  (.seq (.seq (.region m18r1 [1, 6])
  (.cond (.tmp 6)
  (.seq (.region m18r2 [2, 3])
  .ret)
  .skip))
  (.seq (.region m18r3 [2, 3])
  .ret)))⟩
def h18 : List RH := [⟨[1], 0, false, []⟩, ⟨[1, 6], 0, false, []⟩, ⟨[2, 3], 0, false, []⟩, ⟨[2, 3], 0, false, []⟩]
theorem m18_ok : cmpFn Try.prog 18 h18 = some m18 := by kernel_rfl

/- dialtone/dialtonelaw22.config -/
def m19r0 : List MOper := [⟨.zbox [(.int .i64 0), (.int .i64 0), (.int .i64 0), (.int .i64 0)], none, (some 0), []⟩]
def m19r1 : List MOper := [⟨.build [(.int .i64 0), (.int .i64 0), (.int .i64 0), (.int .i64 0)] [(0, 1, (.lit (.int .i64 60))), (1, 1, (.lit (.int .i64 3600))), (2, 1, (.lit (.int .i64 7200))), (3, 1, (.lit (.int .i64 2)))], none, (some 1), []⟩,
  ⟨.store 4 (.tmp 0) (.tmp 1), none, none, [0, 1]⟩]
def m19 : MFunc := ⟨2, [.cell 0 (some 4)],
  (.seq (.region m19r0 [0])
  (.seq (.region m19r1 [0])
  .ret))⟩
def h19 : List RH := [⟨[0], 0, false, []⟩, ⟨[0], 0, false, []⟩]
theorem m19_ok : cmpFn Try.prog 19 h19 = some m19 := by kernel_rfl

/- (*dialtone/registrar.Registrar).Register -/
def m20r0 : List MOper := [⟨.box 9 (.tmp 2), none, (some 5), [2]⟩,
  ⟨.mv (.lit .nils), none, (some 6), []⟩,
  ⟨.mv (.lit (.int .u8 0)), none, (some 7), []⟩]
def m20r1 : List MOper := [⟨.mv (.tmp 0), none, (some 13), [0]⟩,
  ⟨.bin .eql .pointer (.tmp 13) (.lit .nilp), none, (some 14), [13]⟩,
  ⟨.mv (.tmp 14), none, (some 15), [14]⟩,
  ⟨.mv (.tmp 0), (some (15, false)), (some 16), [0]⟩,
  ⟨.nilchk (.tmp 16), (some (15, false)), (some 17), [16]⟩,
  ⟨.faddr 0 (.tmp 17), (some (15, false)), (some 18), [17]⟩,
  ⟨.load none (.tmp 18), (some (15, false)), (some 19), [18]⟩,
  ⟨.un .not (.tmp 19), (some (15, false)), (some 20), [19]⟩,
  ⟨.pick (.tmp 15) (.lit (.bool true)) (.tmp 20), none, (some 21), [15, 20]⟩]
def m20r2 : List MOper := [⟨.mv (.lit .nils), none, (some 6), []⟩,
  ⟨.mv (.lit (.int .u8 1)), none, (some 7), []⟩]
def m20r3 : List MOper := [⟨.mv (.tmp 1), none, (some 23), [1]⟩,
  ⟨.load (some 9) (.tmp 5), none, (some 24), [5]⟩,
  ⟨.call 13 [(.tmp 23), (.tmp 24)], none, (some 25), [23, 24]⟩,
  ⟨.mv (.tmp 25), none, (some 22), [25]⟩,
  ⟨.ext 0 (.tmp 22), none, (some 26), [22]⟩,
  ⟨.ext 1 (.tmp 22), none, (some 27), [22]⟩,
  ⟨.mv (.tmp 26), none, (some 8), [26]⟩,
  ⟨.mv (.tmp 27), none, (some 9), [27]⟩]
def m20r4 : List MOper := [⟨.mv (.tmp 9), none, (some 28), [9]⟩,
  ⟨.bin .neq .other (.tmp 28) (.lit (.int .u8 0)), none, (some 29), [28]⟩]
def m20r5 : List MOper := [⟨.mv (.tmp 9), none, (some 30), [9]⟩,
  ⟨.mv (.lit .nils), none, (some 6), []⟩,
  ⟨.mv (.tmp 30), none, (some 7), [30]⟩]
def m20r6 : List MOper := [⟨.mv (.tmp 1), none, (some 31), [1]⟩,
  ⟨.mv (.tmp 0), none, (some 32), [0]⟩,
  ⟨.nilchk (.tmp 32), none, (some 33), [32]⟩,
  ⟨.faddr 9 (.tmp 33), none, (some 34), [33]⟩,
  ⟨.load none (.tmp 34), none, (some 35), [34]⟩,
  ⟨.bin .lss .other (.tmp 31) (.tmp 35), none, (some 36), [31, 35]⟩]
def m20r7 : List MOper := [⟨.mv (.lit .nils), none, (some 6), []⟩,
  ⟨.mv (.lit (.int .u8 9)), none, (some 7), []⟩]
def m20r8 : List MOper := [⟨.faddr 3 (.tmp 5), none, (some 37), [5]⟩,
  ⟨.load none (.tmp 37), none, (some 38), [37]⟩,
  ⟨.mv (.tmp 38), none, (some 39), [38]⟩,
  ⟨.faddr 4 (.tmp 5), (some (39, false)), (some 40), [5]⟩,
  ⟨.load none (.tmp 40), (some (39, false)), (some 41), [40]⟩,
  ⟨.len 1 (.tmp 41), (some (39, false)), (some 42), [41]⟩,
  ⟨.bin .gtr .other (.tmp 42) (.lit (.int .i64 0)), (some (39, false)), (some 43), [42]⟩,
  ⟨.pick (.tmp 39) (.lit (.bool true)) (.tmp 43), none, (some 44), [39, 43]⟩]
def m20r9 : List MOper := [⟨.mv (.tmp 0), none, (some 46), [0]⟩,
  ⟨.nilchk (.tmp 46), none, (some 47), [46]⟩,
  ⟨.faddr 1 (.tmp 47), none, (some 48), [47]⟩,
  ⟨.load (some 4) (.tmp 48), none, (some 49), [48]⟩,
  ⟨.mv (.tmp 0), none, (some 50), [0]⟩,
  ⟨.nilchk (.tmp 50), none, (some 51), [50]⟩,
  ⟨.faddr 5 (.tmp 51), none, (some 52), [51]⟩,
  ⟨.load none (.tmp 52), none, (some 53), [52]⟩,
  ⟨.mv (.tmp 1), none, (some 54), [1]⟩,
  ⟨.mv (.tmp 0), none, (some 55), [0]⟩,
  ⟨.nilchk (.tmp 55), none, (some 56), [55]⟩,
  ⟨.faddr 6 (.tmp 56), none, (some 57), [56]⟩,
  ⟨.faddr 2 (.tmp 57), none, (some 58), [57]⟩,
  ⟨.load none (.tmp 58), none, (some 59), [58]⟩,
  ⟨.load (some 9) (.tmp 5), none, (some 60), [5]⟩,
  ⟨.call 44 [(.tmp 49), (.tmp 53), (.tmp 54), (.tmp 59), (.tmp 60)], none, (some 61), [49, 53, 54, 59, 60]⟩,
  ⟨.mv (.tmp 61), none, (some 45), [61]⟩,
  ⟨.ext 0 (.tmp 45), none, (some 62), [45]⟩,
  ⟨.ext 1 (.tmp 45), none, (some 63), [45]⟩]
def m20r10 : List MOper := [⟨.mv (.tmp 62), none, (some 10), [62]⟩,
  ⟨.mv (.tmp 63), none, (some 11), [63]⟩]
def m20r11 : List MOper := [⟨.mv (.tmp 11), none, (some 64), [11]⟩,
  ⟨.bin .neq .other (.tmp 64) (.lit (.int .u8 0)), none, (some 65), [64]⟩]
def m20r12 : List MOper := [⟨.mv (.tmp 11), none, (some 66), [11]⟩,
  ⟨.mv (.lit .nils), none, (some 6), []⟩,
  ⟨.mv (.tmp 66), none, (some 7), [66]⟩]
def m20r13 : List MOper := [⟨.mv (.tmp 0), none, (some 68), [0]⟩,
  ⟨.nilchk (.tmp 68), none, (some 69), [68]⟩,
  ⟨.faddr 6 (.tmp 69), none, (some 70), [69]⟩,
  ⟨.load (some 3) (.tmp 70), none, (some 71), [70]⟩,
  ⟨.mv (.tmp 8), none, (some 72), [8]⟩,
  ⟨.build [(.int .u8 0), .nils] [(0, 1, (.lit (.int .u8 1))), (1, 1, (.tmp 72))], none, (some 73), [72]⟩,
  ⟨.call 45 [(.tmp 71), (.tmp 73)], none, (some 74), [71, 73]⟩,
  ⟨.mv (.tmp 74), none, (some 67), [74]⟩,
  ⟨.ext 0 (.tmp 67), none, (some 75), [67]⟩,
  ⟨.ext 1 (.tmp 67), none, (some 76), [67]⟩,
  ⟨.zbox [.nils, (.int .i64 0), (.int .i64 0)], none, (some 12), []⟩,
  ⟨.store 3 (.tmp 12) (.tmp 75), none, none, [12, 75]⟩,
  ⟨.mv (.tmp 76), none, (some 11), [76]⟩]
def m20r14 : List MOper := [⟨.mv (.tmp 11), none, (some 77), [11]⟩,
  ⟨.bin .neq .other (.tmp 77) (.lit (.int .u8 0)), none, (some 78), [77]⟩]
def m20r15 : List MOper := [⟨.mv (.tmp 11), none, (some 79), [11]⟩,
  ⟨.mv (.lit .nils), none, (some 6), []⟩,
  ⟨.mv (.tmp 79), none, (some 7), [79]⟩]
def m20r16 : List MOper := [⟨.mv (.tmp 0), none, (some 80), [0]⟩,
  ⟨.mv (.tmp 0), none, (some 81), [0]⟩,
  ⟨.mv (.tmp 0), none, (some 82), [0]⟩,
  ⟨.mv (.tmp 10), none, (some 83), [10]⟩,
  ⟨.load (some 3) (.tmp 12), none, (some 84), [12]⟩,
  ⟨.mv (.tmp 1), none, (some 85), [1]⟩]
def m20r17 : List MOper := [⟨.nilchk (.tmp 80), none, (some 86), [80]⟩,
  ⟨.faddr 5 (.tmp 86), none, (some 87), [86]⟩,
  ⟨.store 1 (.tmp 87) (.tmp 83), none, none, [87, 83]⟩,
  ⟨.nilchk (.tmp 81), none, (some 88), [81]⟩,
  ⟨.faddr 6 (.tmp 88), none, (some 89), [88]⟩,
  ⟨.store 3 (.tmp 89) (.tmp 84), none, none, [89, 84]⟩,
  ⟨.nilchk (.tmp 82), none, (some 90), [82]⟩,
  ⟨.faddr 9 (.tmp 90), none, (some 91), [90]⟩,
  ⟨.store 1 (.tmp 91) (.tmp 85), none, none, [91, 85]⟩]
def m20r18 : List MOper := [⟨.load (some 3) (.tmp 12), none, (some 84), [12]⟩]
def m20r19 : List MOper := [⟨.load (some 3) (.tmp 12), none, (some 84), [12]⟩]
def m20r20 : List MOper := [⟨.load (some 3) (.tmp 12), none, (some 84), [12]⟩]
def m20r21 : List MOper := [⟨.load (some 3) (.tmp 12), none, (some 84), [12]⟩]
def m20r22 : List MOper := [⟨.mv (.tmp 0), none, (some 92), [0]⟩,
  ⟨.nilchk (.tmp 92), none, (some 93), [92]⟩,
  ⟨.faddr 5 (.tmp 93), none, (some 94), [93]⟩,
  ⟨.load none (.tmp 94), none, (some 95), [94]⟩,
  ⟨.mv (.tmp 1), none, (some 96), [1]⟩]
def m20r23 : List MOper := [⟨.faddr 0 (.tmp 5), none, (some 97), [5]⟩,
  ⟨.load none (.tmp 97), none, (some 98), [97]⟩,
  ⟨.call 46 [(.tmp 95), (.tmp 96), (.tmp 98)], none, (some 99), [95, 96, 98]⟩,
  ⟨.mv (.tmp 99), none, (some 6), [99]⟩,
  ⟨.mv (.lit (.int .u8 0)), none, (some 7), []⟩]
def m20r24 : List MOper := [⟨.load none (.tmp 94), none, (some 95), [94]⟩]
def m20r25 : List MOper := [⟨.load none (.tmp 94), none, (some 95), [94]⟩]
def m20r26 : List MOper := [⟨.load none (.tmp 94), none, (some 95), [94]⟩]
def m20 : MFunc := ⟨100, [.tmp 6, .tmp 7],
  (.seq (.region m20r0 [0, 1, 5])
  (.seq (.seq (.region m20r1 [0, 1, 5, 21])
  (.cond (.tmp 21)
  (.seq (.region m20r2 [6, 7])
  .ret)
  .skip))
  (.seq (.region m20r3 [0, 1, 5, 8, 9])
  (.seq (.seq (.region m20r4 [0, 1, 5, 8, 9, 29])
  (.cond (.tmp 29)
  (.seq (.region m20r5 [6, 7])
  .ret)
  .skip))
  (.seq (.seq (.region m20r6 [0, 1, 5, 8, 36])
  (.cond (.tmp 36)
  (.seq (.region m20r7 [6, 7])
  .ret)
  .skip))
  (.seq (.seq (.region m20r8 [0, 1, 5, 8, 44])
  (.cond (.tmp 44)
  (.seq (.dregion m20r9 m20r10 [] [0, 1, 5, 8, 10, 11])
  (.seq (.seq (.region m20r11 [0, 1, 5, 8, 10, 11, 65])
  (.cond (.tmp 65)
  (.seq (.region m20r12 [6, 7])
  .ret)
  .skip))
  (.seq (.region m20r13 [0, 1, 5, 10, 11, 12])
  (.seq (.seq (.region m20r14 [0, 1, 5, 10, 11, 12, 78])
  (.cond (.tmp 78)
  (.seq (.region m20r15 [6, 7])
  .ret)
  .skip))
  (.dregion m20r16 m20r17 [m20r18, m20r19, m20r20, m20r21, [], [], [], [], [], []] [0, 1, 5])))))
  .skip))
  (.seq (.dregion m20r22 m20r23 [m20r24, m20r25, m20r26, [], [], []] [6, 7])
  .ret)))))))⟩
def h20 : List RH := [⟨[0, 1, 5], 0, false, []⟩, ⟨[0, 1, 5, 21], 0, false, []⟩, ⟨[6, 7], 0, false, []⟩, ⟨[0, 1, 5, 8, 9], 0, false, []⟩, ⟨[0, 1, 5, 8, 9, 29], 0, false, []⟩, ⟨[6, 7], 0, false, []⟩, ⟨[0, 1, 5, 8, 36], 0, false, []⟩, ⟨[6, 7], 0, false, []⟩, ⟨[0, 1, 5, 8, 44], 0, false, []⟩, ⟨[0, 1, 5, 8, 10, 11], 19, false, []⟩, ⟨[0, 1, 5, 8, 10, 11, 65], 0, false, []⟩, ⟨[6, 7], 0, false, []⟩, ⟨[0, 1, 5, 10, 11, 12], 0, false, []⟩, ⟨[0, 1, 5, 10, 11, 12, 78], 0, false, []⟩, ⟨[6, 7], 0, false, []⟩, ⟨[0, 1, 5], 6, false, []⟩, ⟨[6, 7], 5, false, []⟩]
theorem m20_ok : cmpFn Try.prog 20 h20 = some m20 := by kernel_rfl

/- dialtone/dialtonelaw22.act -/
def m21r0 : List MOper := [⟨.zbox [(.str []), (.str []), (.int .i64 0), (.bool false), .nils, (.int .i64 0), (.str []), (.int .i64 0), .nils], none, (some 4), []⟩]
def m21r1 : List MOper := [⟨.mv (.tmp 0), none, (some 5), [0]⟩,
  ⟨.mv (.tmp 1), none, (some 6), [1]⟩,
  ⟨.build [(.str []), (.str []), (.int .i64 0), (.bool false), .nils, (.int .i64 0), (.str []), (.int .i64 0), .nils] [(0, 1, (.lit (.str [97]))), (1, 1, (.lit (.str [99]))), (2, 1, (.tmp 5)), (4, 1, (.tmp 6)), (5, 1, (.lit (.int .i64 (-1))))], none, (some 7), [5, 6]⟩,
  ⟨.store 9 (.tmp 4) (.tmp 7), none, none, [4, 7]⟩]
def m21 : MFunc := ⟨8, [.cell 4 (some 9)],
  (.seq (.region m21r0 [0, 1, 4])
  (.seq (.region m21r1 [4])
  .ret))⟩
def h21 : List RH := [⟨[0, 1, 4], 0, false, []⟩, ⟨[4], 0, false, []⟩]
theorem m21_ok : cmpFn Try.prog 21 h21 = some m21 := by kernel_rfl

/- dialtone/registrar.Open -/
def m22r0 : List MOper := [⟨.box 4 (.tmp 0), none, (some 2), [0]⟩,
  ⟨.mv (.lit .nilp), none, (some 4), []⟩,
  ⟨.mv (.lit (.int .u8 0)), none, (some 5), []⟩]
def m22r1 : List MOper := [⟨.load (some 4) (.tmp 2), none, (some 15), [2]⟩,
  ⟨.call 18 [(.tmp 15)], none, (some 16), [15]⟩,
  ⟨.mv (.tmp 16), none, (some 14), [16]⟩,
  ⟨.ext 0 (.tmp 14), none, (some 17), [14]⟩,
  ⟨.ext 1 (.tmp 14), none, (some 18), [14]⟩,
  ⟨.mv (.tmp 17), none, (some 6), [17]⟩,
  ⟨.mv (.tmp 18), none, (some 7), [18]⟩]
def m22r2 : List MOper := [⟨.mv (.tmp 7), none, (some 19), [7]⟩,
  ⟨.bin .neq .other (.tmp 19) (.lit (.int .u8 0)), none, (some 20), [19]⟩]
def m22r3 : List MOper := [⟨.mv (.tmp 7), none, (some 21), [7]⟩,
  ⟨.mv (.lit .nilp), none, (some 4), []⟩,
  ⟨.mv (.tmp 21), none, (some 5), [21]⟩]
def m22r4 : List MOper := [⟨.mv (.tmp 1), none, (some 23), [1]⟩,
  ⟨.call 47 [(.tmp 23)], none, (some 24), [23]⟩,
  ⟨.mv (.tmp 24), none, (some 22), [24]⟩,
  ⟨.ext 0 (.tmp 22), none, (some 25), [22]⟩,
  ⟨.ext 1 (.tmp 22), none, (some 26), [22]⟩,
  ⟨.zbox [.nils, (.int .i64 0), (.int .i64 0)], none, (some 8), []⟩,
  ⟨.store 3 (.tmp 8) (.tmp 25), none, none, [8, 25]⟩,
  ⟨.mv (.tmp 26), none, (some 9), [26]⟩]
def m22r5 : List MOper := [⟨.mv (.tmp 6), none, (some 27), [6]⟩,
  ⟨.mkfn 48 [(.tmp 27)] [], none, (some 28), [27]⟩,
  ⟨.mv (.tmp 28), none, (some 10), [28]⟩]
def m22r6 : List MOper := [⟨.mv (.tmp 9), none, (some 29), [9]⟩,
  ⟨.len 1 (.tmp 29), none, (some 30), [29]⟩,
  ⟨.mv (.lit (.int .i64 0)), none, (some 31), []⟩]
def m22r7 : List MOper := [⟨.bin .lss .other (.tmp 31) (.tmp 30), none, (some 32), [31, 30]⟩]
def m22r8 : List MOper := [⟨.mv (.tmp 31), none, (some 33), [31]⟩,
  ⟨.iaddr 2 (.tmp 29) (.tmp 31), none, (some 34), [29, 31]⟩,
  ⟨.load (some 2) (.tmp 34), none, (some 35), [34]⟩,
  ⟨.zbox [(.int .u8 0), .nils], none, (some 12), []⟩,
  ⟨.mv (.tmp 33), none, (some 11), [33]⟩,
  ⟨.store 2 (.tmp 12) (.tmp 35), none, none, [12, 35]⟩]
def m22r9 : List MOper := [⟨.mv (.tmp 10), none, (some 36), [10]⟩,
  ⟨.mv (.tmp 11), none, (some 37), [11]⟩,
  ⟨.load (some 2) (.tmp 12), none, (some 38), [12]⟩,
  ⟨.callv (.tmp 36) [(.tmp 37), (.tmp 38)], none, (some 39), [36, 37, 38]⟩,
  ⟨.mv (.tmp 39), none, (some 13), [39]⟩]
def m22r10 : List MOper := [⟨.mv (.tmp 13), none, (some 40), [13]⟩,
  ⟨.bin .neq .other (.tmp 40) (.lit (.int .u8 0)), none, (some 41), [40]⟩]
def m22r11 : List MOper := [⟨.mv (.tmp 13), none, (some 42), [13]⟩,
  ⟨.mv (.lit .nilp), none, (some 4), []⟩,
  ⟨.mv (.tmp 42), none, (some 5), [42]⟩]
def m22r12 : List MOper := [⟨.bin .add .other (.tmp 31) (.lit (.int .i64 1)), none, (some 43), [31]⟩,
  ⟨.mv (.tmp 43), none, (some 31), [43]⟩]
def m22l13 : MCode := (.seq (.region m22r7 [6, 8, 10, 29, 30, 31, 32])
  (.seq (.cond (.tmp 32)
  .skip
  (.exit 0))
  (.seq (.block 1 (.seq (.region m22r8 [6, 8, 10, 11, 12, 29, 30, 31])
  (.seq (.region m22r9 [6, 8, 10, 13, 29, 30, 31])
  (.seq (.region m22r10 [6, 8, 10, 13, 29, 30, 31, 41])
  (.cond (.tmp 41)
  (.seq (.region m22r11 [4, 5])
  .ret)
  .skip)))))
  (.region m22r12 [6, 8, 10, 29, 30, 31]))))
def m22r14 : List MOper := [⟨.mv (.tmp 6), none, (some 44), [6]⟩,
  ⟨.load (some 3) (.tmp 8), none, (some 45), [8]⟩,
  ⟨.nilchk (.tmp 44), none, (some 46), [44]⟩,
  ⟨.faddr 6 (.tmp 46), none, (some 47), [46]⟩,
  ⟨.store 3 (.tmp 47) (.tmp 45), none, none, [47, 45]⟩]
def m22r15 : List MOper := [⟨.mv (.tmp 6), none, (some 48), [6]⟩,
  ⟨.mv (.tmp 48), none, (some 4), [48]⟩,
  ⟨.mv (.lit (.int .u8 0)), none, (some 5), []⟩]
def m22 : MFunc := ⟨49, [.tmp 4, .tmp 5],
  (.seq (.region m22r0 [1, 2])
  (.seq (.region m22r1 [1, 6, 7])
  (.seq (.seq (.region m22r2 [1, 6, 7, 20])
  (.cond (.tmp 20)
  (.seq (.region m22r3 [4, 5])
  .ret)
  .skip))
  (.seq (.region m22r4 [6, 8, 9])
  (.seq (.region m22r5 [6, 8, 9, 10])
  (.seq (.seq (.region m22r6 [6, 8, 10, 29, 30, 31])
  (.block 0 (.loop [6, 8, 10, 29, 30, 31] m22l13)))
  (.seq (.region m22r14 [6])
  (.seq (.region m22r15 [4, 5])
  .ret))))))))⟩
def h22 : List RH := [⟨[1, 2], 0, false, []⟩, ⟨[1, 6, 7], 0, false, []⟩, ⟨[1, 6, 7, 20], 0, false, []⟩, ⟨[4, 5], 0, false, []⟩, ⟨[6, 8, 9], 0, false, []⟩, ⟨[6, 8, 9, 10], 0, false, []⟩, ⟨[6, 8, 10, 29, 30, 31], 0, false, []⟩, ⟨[6, 8, 10, 29, 30, 31], 0, false, []⟩, ⟨[6, 8, 10, 29, 30, 31, 32], 0, false, []⟩, ⟨[6, 8, 10, 11, 12, 29, 30, 31], 0, false, []⟩, ⟨[6, 8, 10, 13, 29, 30, 31], 0, false, []⟩, ⟨[6, 8, 10, 13, 29, 30, 31, 41], 0, false, []⟩, ⟨[4, 5], 0, false, []⟩, ⟨[6, 8, 10, 29, 30, 31], 0, false, []⟩, ⟨[6], 0, false, []⟩, ⟨[4, 5], 0, false, []⟩]
theorem m22_ok : cmpFn Try.prog 22 h22 = some m22 := by kernel_rfl

/- (*dialtone/registrar.Registrar).Log -/
def m23r0 : List MOper := [⟨.zbox [.nils, (.int .i64 0), (.int .i64 0)], none, (some 2), []⟩]
def m23r1 : List MOper := [⟨.mv (.tmp 0), none, (some 3), [0]⟩,
  ⟨.bin .eql .pointer (.tmp 3) (.lit .nilp), none, (some 4), [3]⟩]
def m23r2 : List MOper := [⟨.build [.nils, (.int .i64 0), (.int .i64 0)] [], none, (some 5), []⟩,
  ⟨.store 3 (.tmp 2) (.tmp 5), none, none, [2, 5]⟩]
def m23r3 : List MOper := [⟨.mv (.tmp 0), none, (some 6), [0]⟩,
  ⟨.nilchk (.tmp 6), none, (some 7), [6]⟩,
  ⟨.faddr 6 (.tmp 7), none, (some 8), [7]⟩,
  ⟨.faddr 0 (.tmp 8), none, (some 9), [8]⟩,
  ⟨.load none (.tmp 9), none, (some 10), [9]⟩,
  ⟨.mv (.tmp 0), none, (some 12), [0]⟩,
  ⟨.nilchk (.tmp 12), none, (some 13), [12]⟩,
  ⟨.faddr 6 (.tmp 13), none, (some 14), [13]⟩,
  ⟨.faddr 1 (.tmp 14), none, (some 15), [14]⟩,
  ⟨.load none (.tmp 15), none, (some 16), [15]⟩,
  ⟨.mv (.tmp 0), none, (some 17), [0]⟩,
  ⟨.nilchk (.tmp 17), none, (some 18), [17]⟩,
  ⟨.faddr 6 (.tmp 18), none, (some 19), [18]⟩,
  ⟨.faddr 2 (.tmp 19), none, (some 20), [19]⟩,
  ⟨.load none (.tmp 20), none, (some 21), [20]⟩]
def m23r4 : List MOper := [⟨.call 49 [(.tmp 10)], none, (some 11), [10]⟩,
  ⟨.build [.nils, (.int .i64 0), (.int .i64 0)] [(0, 1, (.tmp 11)), (1, 1, (.tmp 16)), (2, 1, (.tmp 21))], none, (some 22), [11, 16, 21]⟩,
  ⟨.store 3 (.tmp 2) (.tmp 22), none, none, [2, 22]⟩]
def m23r5 : List MOper := [⟨.load none (.tmp 15), none, (some 16), [15]⟩,
  ⟨.load none (.tmp 20), none, (some 21), [20]⟩]
def m23r6 : List MOper := [⟨.load none (.tmp 15), none, (some 16), [15]⟩,
  ⟨.load none (.tmp 20), none, (some 21), [20]⟩]
def m23 : MFunc := ⟨23, [.cell 2 (some 3)],
  (.seq (.region m23r0 [0, 2])
  (.seq (.seq (.region m23r1 [0, 2, 4])
  (.cond (.tmp 4)
  (.seq (.region m23r2 [2])
  .ret)
  .skip))
  (.seq (.dregion m23r3 m23r4 [m23r5, m23r6, [], []] [2])
  .ret)))⟩
def h23 : List RH := [⟨[0, 2], 0, false, []⟩, ⟨[0, 2, 4], 0, false, []⟩, ⟨[2], 0, false, []⟩, ⟨[2], 15, false, [0, 1, 2, 3, 4, 6, 7, 8, 9, 10, 11, 12, 13, 14, 15, 5, 16, 17]⟩]
theorem m23_ok : cmpFn Try.prog 23 h23 = some m23 := by kernel_rfl

/- (*dialtone/registrar.Registrar).All -/
def m24r0 : List MOper := [⟨.mv (.lit .nils), none, (some 2), []⟩]
def m24r1 : List MOper := [⟨.mv (.tmp 0), none, (some 5), [0]⟩,
  ⟨.bin .eql .pointer (.tmp 5) (.lit .nilp), none, (some 6), [5]⟩]
def m24r2 : List MOper := [⟨.mv (.lit .nils), none, (some 2), []⟩]
def m24r3 : List MOper := [⟨.mv (.tmp 0), none, (some 7), [0]⟩,
  ⟨.nilchk (.tmp 7), none, (some 8), [7]⟩,
  ⟨.faddr 5 (.tmp 8), none, (some 9), [8]⟩,
  ⟨.load none (.tmp 9), none, (some 10), [9]⟩,
  ⟨.call 50 [(.tmp 10)], none, (some 11), [10]⟩,
  ⟨.mv (.tmp 11), none, (some 3), [11]⟩]
def m24r4 : List MOper := [⟨.mv (.tmp 3), none, (some 12), [3]⟩,
  ⟨.len 1 (.tmp 12), none, (some 13), [12]⟩,
  ⟨.mv (.lit (.int .i64 0)), none, (some 14), []⟩]
def m24r5 : List MOper := [⟨.bin .lss .other (.tmp 14) (.tmp 13), none, (some 15), [14, 13]⟩]
def m24r6 : List MOper := [⟨.mv (.tmp 14), none, (some 16), [14]⟩,
  ⟨.mv (.tmp 16), none, (some 4), [16]⟩]
def m24r7 : List MOper := [⟨.mv (.tmp 3), none, (some 17), [3]⟩,
  ⟨.mv (.tmp 4), none, (some 18), [4]⟩,
  ⟨.mv (.tmp 3), none, (some 19), [3]⟩,
  ⟨.mv (.tmp 4), none, (some 20), [4]⟩,
  ⟨.iaddr 10 (.tmp 19) (.tmp 20), none, (some 21), [19, 20]⟩,
  ⟨.load (some 10) (.tmp 21), none, (some 22), [21]⟩,
  ⟨.call 51 [(.tmp 22)], none, (some 23), [22]⟩,
  ⟨.iaddr 10 (.tmp 17) (.tmp 18), none, (some 24), [17, 18]⟩,
  ⟨.store 10 (.tmp 24) (.tmp 23), none, none, [24, 23]⟩]
def m24r8 : List MOper := [⟨.bin .add .other (.tmp 14) (.lit (.int .i64 1)), none, (some 25), [14]⟩,
  ⟨.mv (.tmp 25), none, (some 14), [25]⟩]
def m24l9 : MCode := (.seq (.region m24r5 [3, 13, 14, 15])
  (.seq (.cond (.tmp 15)
  .skip
  (.exit 0))
  (.seq (.block 1 (.seq (.region m24r6 [3, 4, 13, 14])
  (.region m24r7 [3, 13, 14])))
  (.region m24r8 [3, 13, 14]))))
def m24r10 : List MOper := [⟨.mv (.tmp 3), none, (some 26), [3]⟩,
  ⟨.mv (.tmp 26), none, (some 2), [26]⟩]
def m24 : MFunc := ⟨27, [.tmp 2],
  (.seq (.region m24r0 [0])
  (.seq (.seq (.region m24r1 [0, 6])
  (.cond (.tmp 6)
  (.seq (.region m24r2 [2])
  .ret)
  .skip))
  (.seq (.region m24r3 [3])
  (.seq (.seq (.region m24r4 [3, 13, 14])
  (.block 0 (.loop [3, 13, 14] m24l9)))
  (.seq (.region m24r10 [2])
  .ret)))))⟩
def h24 : List RH := [⟨[0], 0, false, []⟩, ⟨[0, 6], 0, false, []⟩, ⟨[2], 0, false, []⟩, ⟨[3], 0, false, []⟩, ⟨[3, 13, 14], 0, false, []⟩, ⟨[3, 13, 14], 0, false, []⟩, ⟨[3, 13, 14, 15], 0, false, []⟩, ⟨[3, 4, 13, 14], 0, false, []⟩, ⟨[3, 13, 14], 0, false, []⟩, ⟨[3, 13, 14], 0, false, []⟩, ⟨[2], 0, false, []⟩]
theorem m24_ok : cmpFn Try.prog 24 h24 = some m24 := by kernel_rfl

/- dialtone/registrar.within -/
def m29r0 : List MOper := [⟨.mv (.lit (.bool false)), none, (some 6), []⟩]
def m29r1 : List MOper := [⟨.mv (.tmp 0), none, (some 7), [0]⟩,
  ⟨.mv (.tmp 1), none, (some 8), [1]⟩,
  ⟨.bin .geq .other (.tmp 7) (.tmp 8), none, (some 9), [7, 8]⟩,
  ⟨.mv (.tmp 9), none, (some 10), [9]⟩,
  ⟨.mv (.tmp 0), (some (10, true)), (some 11), [0]⟩,
  ⟨.mv (.tmp 2), (some (10, true)), (some 12), [2]⟩,
  ⟨.bin .leq .other (.tmp 11) (.tmp 12), (some (10, true)), (some 13), [11, 12]⟩,
  ⟨.pick (.tmp 10) (.tmp 13) (.lit (.bool false)), none, (some 14), [10, 13]⟩,
  ⟨.mv (.tmp 14), none, (some 6), [14]⟩]
def m29 : MFunc := ⟨15, [.tmp 6],
  (.seq (.region m29r0 [0, 1, 2])
  (.seq (.region m29r1 [6])
  .ret))⟩
def h29 : List RH := [⟨[0, 1, 2], 0, false, []⟩, ⟨[6], 0, false, []⟩]
theorem m29_ok : cmpFn Try.prog 29 h29 = some m29 := by kernel_rfl

/- slices.ContainsFunc[[]string,string] -/
def m30r0 : List MOper := [⟨.mv (.lit (.bool false)), none, (some 4), []⟩]
def m30r1 : List MOper := [⟨.mv (.tmp 0), none, (some 5), [0]⟩,
  ⟨.mv (.tmp 1), none, (some 6), [1]⟩,
  ⟨.call 54 [(.tmp 5), (.tmp 6)], none, (some 7), [5, 6]⟩,
  ⟨.bin .geq .other (.tmp 7) (.lit (.int .i64 0)), none, (some 8), [7]⟩,
  ⟨.mv (.tmp 8), none, (some 4), [8]⟩]
def m30 : MFunc := ⟨9, [.tmp 4],
  (.seq (.region m30r0 [0, 1])
  (.seq (.region m30r1 [4])
  .ret))⟩
def h30 : List RH := [⟨[0, 1], 0, false, []⟩, ⟨[4], 0, false, []⟩]
theorem m30_ok : cmpFn Try.prog 30 h30 = some m30 := by kernel_rfl

/- dialtone/registrar.Formed$1 -/
def m31r0 : List MOper := [⟨.mv (.lit (.bool false)), none, (some 2), []⟩]
def m31r1 : List MOper := [⟨.mv (.tmp 0), none, (some 3), [0]⟩,
  ⟨.len 0 (.tmp 3), none, (some 4), [3]⟩,
  ⟨.call 29 [(.tmp 4), (.lit (.int .i64 1)), (.lit (.int .i64 1000))], none, (some 5), [4]⟩,
  ⟨.un .not (.tmp 5), none, (some 6), [5]⟩,
  ⟨.mv (.tmp 6), none, (some 2), [6]⟩]
def m31 : MFunc := ⟨7, [.tmp 2],
  (.seq (.region m31r0 [0])
  (.seq (.region m31r1 [2])
  .ret))⟩
def h31 : List RH := [⟨[0], 0, false, []⟩, ⟨[2], 0, false, []⟩]
theorem m31_ok : cmpFn Try.prog 31 h31 = some m31 := by kernel_rfl

/- dialtone/registrar.text -/
def m33r0 : List MOper := [⟨.mv (.lit .nils), none, (some 4), []⟩]
def m33r1 : List MOper := [⟨.mv (.tmp 0), none, (some 5), [0]⟩,
  ⟨.mv (.tmp 1), none, (some 6), [1]⟩,
  ⟨.len 0 (.tmp 6), none, (some 7), [6]⟩,
  ⟨.call 34 [(.tmp 5), (.tmp 7), (.lit (.int .i64 2))], none, (some 8), [5, 7]⟩,
  ⟨.mv (.tmp 1), none, (some 9), [1]⟩,
  ⟨.append 1 1 (.tmp 8) (.tmp 9), none, (some 10), [8, 9]⟩,
  ⟨.mv (.tmp 10), none, (some 4), [10]⟩]
def m33 : MFunc := ⟨11, [.tmp 4],
  (.seq (.region m33r0 [0, 1])
  (.seq (.region m33r1 [4])
  .ret))⟩
def h33 : List RH := [⟨[0, 1], 0, false, []⟩, ⟨[4], 0, false, []⟩]
theorem m33_ok : cmpFn Try.prog 33 h33 = some m33 := by kernel_rfl

/- dialtone/registrar.number -/
def m34r0 : List MOper := [⟨.mv (.lit .nils), none, (some 6), []⟩]
def m34r1 : List MOper := [⟨.mv (.tmp 2), none, (some 8), [2]⟩,
  ⟨.bin .sub .other (.tmp 8) (.lit (.int .i64 1)), none, (some 9), [8]⟩,
  ⟨.mv (.tmp 9), none, (some 7), [9]⟩]
def m34r2 : List MOper := [⟨.mv (.tmp 7), none, (some 10), [7]⟩,
  ⟨.bin .geq .other (.tmp 10) (.lit (.int .i64 0)), none, (some 11), [10]⟩]
def m34r3 : List MOper := [⟨.mv (.tmp 0), none, (some 14), [0]⟩,
  ⟨.mv (.tmp 1), none, (some 15), [1]⟩,
  ⟨.mv (.tmp 7), none, (some 16), [7]⟩,
  ⟨.bin .mul .other (.lit (.int .i64 8)) (.tmp 16), none, (some 17), [16]⟩,
  ⟨.bin .shr .other (.tmp 15) (.tmp 17), none, (some 18), [15, 17]⟩,
  ⟨.conv .u8 (.tmp 18), none, (some 19), [18]⟩,
  ⟨.mkfrz [(.int .u8 0)] 1 [(0, (.tmp 19))], none, (some 20), [19]⟩,
  ⟨.append 1 1 (.tmp 14) (.tmp 20), none, (some 21), [14, 20]⟩,
  ⟨.mv (.tmp 21), none, (some 0), [21]⟩]
def m34r4 : List MOper := [⟨.mv (.tmp 7), none, (some 12), [7]⟩,
  ⟨.bin .sub .other (.tmp 12) (.lit (.int .i64 1)), none, (some 13), [12]⟩,
  ⟨.mv (.tmp 13), none, (some 7), [13]⟩]
def m34l5 : MCode := (.seq (.seq (.region m34r2 [0, 1, 7, 11])
  (.cond (.tmp 11)
  .skip
  (.exit 0)))
  (.seq (.block 1 (.region m34r3 [0, 1, 7]))
  (.region m34r4 [0, 1, 7])))
def m34r6 : List MOper := [⟨.mv (.tmp 0), none, (some 22), [0]⟩,
  ⟨.mv (.tmp 22), none, (some 6), [22]⟩]
def m34 : MFunc := ⟨23, [.tmp 6],
  (.seq (.region m34r0 [0, 1, 2])
  (.seq (.seq (.region m34r1 [0, 1, 7])
  (.block 0 (.loop [0, 1, 7] m34l5)))
  (.seq (.region m34r6 [6])
  .ret)))⟩
def h34 : List RH := [⟨[0, 1, 2], 0, false, []⟩, ⟨[0, 1, 7], 0, false, []⟩, ⟨[0, 1, 7], 0, false, []⟩, ⟨[0, 1, 7, 11], 0, false, []⟩, ⟨[0, 1, 7], 0, false, []⟩, ⟨[0, 1, 7], 0, false, []⟩, ⟨[6], 0, false, []⟩]
theorem m34_ok : cmpFn Try.prog 34 h34 = some m34 := by kernel_rfl

/- dialtone/registrar.DecodeAct$1 -/
def m37r0 : List MOper := [⟨.mv (.lit (.int .i64 0)), none, (some 4), []⟩]
def m37r1 : List MOper := [⟨.load none (.tmp 1), none, (some 8), [1]⟩,
  ⟨.mv (.tmp 8), none, (some 9), [8]⟩,
  ⟨.load none (.tmp 2), (some (9, false)), (some 10), [2]⟩,
  ⟨.len 1 (.tmp 10), (some (9, false)), (some 11), [10]⟩,
  ⟨.mv (.tmp 0), (some (9, false)), (some 12), [0]⟩,
  ⟨.bin .lss .other (.tmp 11) (.tmp 12), (some (9, false)), (some 13), [11, 12]⟩,
  ⟨.pick (.tmp 9) (.lit (.bool true)) (.tmp 13), none, (some 14), [9, 13]⟩]
def m37r2 : List MOper := [⟨.store 1 (.tmp 1) (.lit (.bool true)), none, none, [1]⟩]
def m37r3 : List MOper := [⟨.mv (.lit (.int .i64 0)), none, (some 4), []⟩]
def m37r4 : List MOper := [⟨.mv (.lit (.int .i64 0)), none, (some 5), []⟩]
def m37r5 : List MOper := [⟨.load none (.tmp 2), none, (some 15), [2]⟩,
  ⟨.mv (.tmp 0), none, (some 16), [0]⟩,
  ⟨.slc 1 (.tmp 15) none (some (.tmp 16)) none, none, (some 17), [15, 16]⟩,
  ⟨.len 1 (.tmp 17), none, (some 18), [17]⟩,
  ⟨.mv (.lit (.int .i64 0)), none, (some 19), []⟩]
def m37r6 : List MOper := [⟨.bin .lss .other (.tmp 19) (.tmp 18), none, (some 20), [19, 18]⟩]
def m37r7 : List MOper := [⟨.iaddr 1 (.tmp 17) (.tmp 19), none, (some 21), [17, 19]⟩,
  ⟨.load none (.tmp 21), none, (some 22), [21]⟩,
  ⟨.mv (.tmp 22), none, (some 7), [22]⟩]
def m37r8 : List MOper := [⟨.mv (.tmp 5), none, (some 23), [5]⟩,
  ⟨.bin .shl .other (.tmp 23) (.lit (.int .u64 8)), none, (some 24), [23]⟩,
  ⟨.mv (.tmp 7), none, (some 25), [7]⟩,
  ⟨.conv .i64 (.tmp 25), none, (some 26), [25]⟩,
  ⟨.bin .or .other (.tmp 24) (.tmp 26), none, (some 27), [24, 26]⟩,
  ⟨.mv (.tmp 27), none, (some 5), [27]⟩]
def m37r9 : List MOper := [⟨.bin .add .other (.tmp 19) (.lit (.int .i64 1)), none, (some 28), [19]⟩,
  ⟨.mv (.tmp 28), none, (some 19), [28]⟩]
def m37l10 : MCode := (.seq (.region m37r6 [0, 2, 5, 17, 18, 19, 20])
  (.seq (.cond (.tmp 20)
  .skip
  (.exit 0))
  (.seq (.block 1 (.seq (.region m37r7 [0, 2, 5, 7, 17, 18, 19])
  (.region m37r8 [0, 2, 5, 17, 18, 19])))
  (.region m37r9 [0, 2, 5, 17, 18, 19]))))
def m37r11 : List MOper := [⟨.load none (.tmp 2), none, (some 29), [2]⟩,
  ⟨.mv (.tmp 0), none, (some 30), [0]⟩,
  ⟨.slc 1 (.tmp 29) (some (.tmp 30)) none none, none, (some 31), [29, 30]⟩,
  ⟨.store 1 (.tmp 2) (.tmp 31), none, none, [2, 31]⟩]
def m37r12 : List MOper := [⟨.mv (.tmp 5), none, (some 32), [5]⟩,
  ⟨.mv (.tmp 32), none, (some 4), [32]⟩]
def m37 : MFunc := ⟨33, [.tmp 4],
  (.seq (.region m37r0 [0, 1, 2])
  (.seq (.seq (.region m37r1 [0, 1, 2, 14])
  (.cond (.tmp 14)
  (.seq (.region m37r2 [])
  (.seq (.region m37r3 [4])
  .ret))
  .skip))
  (.seq (.region m37r4 [0, 2, 5])
  (.seq (.seq (.region m37r5 [0, 2, 5, 17, 18, 19])
  (.block 0 (.loop [0, 2, 5, 17, 18, 19] m37l10)))
  (.seq (.region m37r11 [5])
  (.seq (.region m37r12 [4])
  .ret))))))⟩
def h37 : List RH := [⟨[0, 1, 2], 0, false, []⟩, ⟨[0, 1, 2, 14], 0, false, []⟩, ⟨[], 0, false, []⟩, ⟨[4], 0, false, []⟩, ⟨[0, 2, 5], 0, false, []⟩, ⟨[0, 2, 5, 17, 18, 19], 0, false, []⟩, ⟨[0, 2, 5, 17, 18, 19], 0, false, []⟩, ⟨[0, 2, 5, 17, 18, 19, 20], 0, false, []⟩, ⟨[0, 2, 5, 7, 17, 18, 19], 0, false, []⟩, ⟨[0, 2, 5, 17, 18, 19], 0, false, []⟩, ⟨[0, 2, 5, 17, 18, 19], 0, false, []⟩, ⟨[5], 0, false, []⟩, ⟨[4], 0, false, []⟩]
theorem m37_ok : cmpFn Try.prog 37 h37 = some m37 := by kernel_rfl

/- dialtone/registrar.DecodeAct$2 -/
def m38r0 : List MOper := [⟨.mv (.lit (.str [])), none, (some 3), []⟩]
def m38r1 : List MOper := [⟨.load none (.tmp 0), none, (some 6), [0]⟩,
  ⟨.callv (.tmp 6) [(.lit (.int .i64 2))], none, (some 7), [6]⟩,
  ⟨.mv (.tmp 7), none, (some 4), [7]⟩]
def m38r2 : List MOper := [⟨.load none (.tmp 1), none, (some 8), [1]⟩,
  ⟨.mv (.tmp 8), none, (some 9), [8]⟩,
  ⟨.load none (.tmp 2), (some (9, false)), (some 10), [2]⟩,
  ⟨.len 1 (.tmp 10), (some (9, false)), (some 11), [10]⟩,
  ⟨.mv (.tmp 4), (some (9, false)), (some 12), [4]⟩,
  ⟨.bin .lss .other (.tmp 11) (.tmp 12), (some (9, false)), (some 13), [11, 12]⟩,
  ⟨.pick (.tmp 9) (.lit (.bool true)) (.tmp 13), none, (some 14), [9, 13]⟩]
def m38r3 : List MOper := [⟨.store 1 (.tmp 1) (.lit (.bool true)), none, none, [1]⟩]
def m38r4 : List MOper := [⟨.mv (.lit (.str [])), none, (some 3), []⟩]
def m38r5 : List MOper := [⟨.load none (.tmp 2), none, (some 15), [2]⟩,
  ⟨.mv (.tmp 4), none, (some 16), [4]⟩,
  ⟨.slc 1 (.tmp 15) none (some (.tmp 16)) none, none, (some 17), [15, 16]⟩,
  ⟨.tostr (.tmp 17), none, (some 18), [17]⟩,
  ⟨.mv (.tmp 18), none, (some 5), [18]⟩]
def m38r6 : List MOper := [⟨.load none (.tmp 2), none, (some 19), [2]⟩,
  ⟨.mv (.tmp 4), none, (some 20), [4]⟩,
  ⟨.slc 1 (.tmp 19) (some (.tmp 20)) none none, none, (some 21), [19, 20]⟩,
  ⟨.store 1 (.tmp 2) (.tmp 21), none, none, [2, 21]⟩]
def m38r7 : List MOper := [⟨.mv (.tmp 5), none, (some 22), [5]⟩,
  ⟨.mv (.tmp 22), none, (some 3), [22]⟩]
def m38 : MFunc := ⟨23, [.tmp 3],
  (.seq (.region m38r0 [0, 1, 2])
  (.seq (.region m38r1 [1, 2, 4])
  (.seq (.seq (.region m38r2 [1, 2, 4, 14])
  (.cond (.tmp 14)
  (.seq (.region m38r3 [])
  (.seq (.region m38r4 [3])
  .ret))
  .skip))
  (.seq (.region m38r5 [2, 4, 5])
  (.seq (.region m38r6 [5])
  (.seq (.region m38r7 [3])
  .ret))))))⟩
def h38 : List RH := [⟨[0, 1, 2], 0, false, []⟩, ⟨[1, 2, 4], 0, false, []⟩, ⟨[1, 2, 4, 14], 0, false, []⟩, ⟨[], 0, false, []⟩, ⟨[3], 0, false, []⟩, ⟨[2, 4, 5], 0, false, []⟩, ⟨[5], 0, false, []⟩, ⟨[3], 0, false, []⟩]
theorem m38_ok : cmpFn Try.prog 38 h38 = some m38 := by kernel_rfl

/- dialtone/registrar.DecodeAct$3 -/
def m39r0 : List MOper := [⟨.mv (.lit (.int .i64 0)), none, (some 1), []⟩]
def m39r1 : List MOper := [⟨.load none (.tmp 0), none, (some 2), [0]⟩,
  ⟨.callv (.tmp 2) [(.lit (.int .i64 4))], none, (some 3), [2]⟩,
  ⟨.conv .i32 (.tmp 3), none, (some 4), [3]⟩,
  ⟨.conv .i64 (.tmp 4), none, (some 5), [4]⟩,
  ⟨.mv (.tmp 5), none, (some 1), [5]⟩]
def m39 : MFunc := ⟨6, [.tmp 1],
  (.seq (.region m39r0 [0])
  (.seq (.region m39r1 [1])
  .ret))⟩
def h39 : List RH := [⟨[0], 0, false, []⟩, ⟨[1], 0, false, []⟩]
theorem m39_ok : cmpFn Try.prog 39 h39 = some m39 := by kernel_rfl

/- dialtone/registrar.Update -/
def m44r0 : List MOper := [⟨.box 4 (.tmp 0), none, (some 5), [0]⟩,
  ⟨.box 9 (.tmp 4), none, (some 9), [4]⟩,
  ⟨.mv (.lit .nils), none, (some 10), []⟩,
  ⟨.mv (.lit (.int .u8 0)), none, (some 11), []⟩]
def m44r1 : List MOper := [⟨.load (some 4) (.tmp 5), none, (some 20), [5]⟩,
  ⟨.call 9 [(.tmp 20)], none, (some 21), [20]⟩,
  ⟨.un .not (.tmp 21), none, (some 22), [21]⟩,
  ⟨.mv (.tmp 22), none, (some 23), [22]⟩,
  ⟨.load (some 9) (.tmp 9), (some (23, false)), (some 24), [9]⟩,
  ⟨.call 11 [(.tmp 24)], (some (23, false)), (some 25), [24]⟩,
  ⟨.un .not (.tmp 25), (some (23, false)), (some 26), [25]⟩,
  ⟨.pick (.tmp 23) (.lit (.bool true)) (.tmp 26), none, (some 27), [23, 26]⟩,
  ⟨.mv (.tmp 27), none, (some 28), [27]⟩,
  ⟨.mv (.tmp 2), (some (28, false)), (some 29), [2]⟩,
  ⟨.call 29 [(.tmp 29), (.lit (.int .i64 0)), (.lit (.int .i64 1099511627776))], (some (28, false)), (some 30), [29]⟩,
  ⟨.un .not (.tmp 30), (some (28, false)), (some 31), [30]⟩,
  ⟨.pick (.tmp 28) (.lit (.bool true)) (.tmp 31), none, (some 32), [28, 31]⟩,
  ⟨.mv (.tmp 32), none, (some 33), [32]⟩,
  ⟨.mv (.tmp 3), (some (33, false)), (some 34), [3]⟩,
  ⟨.bin .lss .other (.tmp 34) (.lit (.int .i64 0)), (some (33, false)), (some 35), [34]⟩,
  ⟨.pick (.tmp 33) (.lit (.bool true)) (.tmp 35), none, (some 36), [33, 35]⟩]
def m44r2 : List MOper := [⟨.mv (.lit .nils), none, (some 10), []⟩,
  ⟨.mv (.lit (.int .u8 2)), none, (some 11), []⟩]
def m44r3 : List MOper := [⟨.mv (.lit .nils), none, (some 12), []⟩]
def m44r4 : List MOper := [⟨.mv (.lit (.int .i64 0)), none, (some 13), []⟩,
  ⟨.mv (.lit (.bool false)), none, (some 14), []⟩]
def m44r5 : List MOper := [⟨.mv (.tmp 1), none, (some 37), [1]⟩,
  ⟨.len 1 (.tmp 37), none, (some 38), [37]⟩,
  ⟨.mv (.lit (.int .i64 0)), none, (some 39), []⟩]
def m44r6 : List MOper := [⟨.bin .lss .other (.tmp 39) (.tmp 38), none, (some 40), [39, 38]⟩]
def m44r7 : List MOper := [⟨.iaddr 10 (.tmp 37) (.tmp 39), none, (some 41), [37, 39]⟩,
  ⟨.load (some 10) (.tmp 41), none, (some 42), [41]⟩,
  ⟨.zbox [(.str []), (.str []), (.int .i64 0), (.int .i64 0), (.int .i64 0), (.str []), (.int .i64 0), (.str []), (.int .i64 0), .nils], none, (some 16), []⟩,
  ⟨.store 10 (.tmp 16) (.tmp 42), none, none, [16, 42]⟩]
def m44r8 : List MOper := [⟨.faddr 0 (.tmp 16), none, (some 51), [16]⟩,
  ⟨.load none (.tmp 51), none, (some 52), [51]⟩,
  ⟨.faddr 0 (.tmp 9), none, (some 53), [9]⟩,
  ⟨.load none (.tmp 53), none, (some 54), [53]⟩,
  ⟨.bin .neq .other (.tmp 52) (.tmp 54), none, (some 55), [52, 54]⟩,
  ⟨.mv (.tmp 55), none, (some 50), [55]⟩]
def m44r9 : List MOper := [⟨.mv (.tmp 12), none, (some 56), [12]⟩,
  ⟨.load (some 10) (.tmp 16), none, (some 57), [16]⟩,
  ⟨.call 51 [(.tmp 57)], none, (some 58), [57]⟩,
  ⟨.mkfrz [(.str []), (.str []), (.int .i64 0), (.int .i64 0), (.int .i64 0), (.str []), (.int .i64 0), (.str []), (.int .i64 0), .nils] 1 [(0, (.tmp 58))], none, (some 59), [58]⟩,
  ⟨.append 10 128 (.tmp 56) (.tmp 59), none, (some 60), [56, 59]⟩,
  ⟨.mv (.tmp 60), none, (some 12), [60]⟩]
def m44r10 : List MOper := [⟨.faddr 3 (.tmp 16), none, (some 62), [16]⟩,
  ⟨.load none (.tmp 62), none, (some 63), [62]⟩,
  ⟨.mv (.tmp 2), none, (some 64), [2]⟩,
  ⟨.bin .leq .other (.tmp 63) (.tmp 64), none, (some 65), [63, 64]⟩,
  ⟨.mv (.tmp 65), none, (some 61), [65]⟩]
def m44r11 : List MOper := [⟨.load (some 9) (.tmp 9), none, (some 67), [9]⟩,
  ⟨.load (some 10) (.tmp 16), none, (some 68), [16]⟩,
  ⟨.call 55 [(.tmp 67), (.tmp 68)], none, (some 69), [67, 68]⟩,
  ⟨.mv (.tmp 69), none, (some 66), [69]⟩]
def m44r12 : List MOper := [⟨.mv (.tmp 14), none, (some 70), [14]⟩,
  ⟨.mv (.tmp 70), none, (some 71), [70]⟩,
  ⟨.faddr 5 (.tmp 16), (some (71, false)), (some 72), [16]⟩,
  ⟨.load none (.tmp 72), (some (71, false)), (some 73), [72]⟩,
  ⟨.faddr 1 (.tmp 9), (some (71, false)), (some 74), [9]⟩,
  ⟨.load none (.tmp 74), (some (71, false)), (some 75), [74]⟩,
  ⟨.bin .eql .other (.tmp 73) (.tmp 75), (some (71, false)), (some 76), [73, 75]⟩,
  ⟨.mv (.tmp 76), (some (71, false)), (some 77), [76]⟩,
  ⟨.faddr 6 (.tmp 16), (some (77, true)), (some 78), [16]⟩,
  ⟨.load none (.tmp 78), (some (77, true)), (some 79), [78]⟩,
  ⟨.faddr 2 (.tmp 9), (some (77, true)), (some 80), [9]⟩,
  ⟨.load none (.tmp 80), (some (77, true)), (some 81), [80]⟩,
  ⟨.bin .geq .other (.tmp 79) (.tmp 81), (some (77, true)), (some 82), [79, 81]⟩,
  ⟨.pick (.tmp 77) (.tmp 82) (.lit (.bool false)), (some (71, false)), (some 83), [77, 82]⟩,
  ⟨.pick (.tmp 71) (.lit (.bool true)) (.tmp 83), none, (some 84), [71, 83]⟩,
  ⟨.mv (.tmp 84), none, (some 14), [84]⟩]
def m44r13 : List MOper := [⟨.mv (.tmp 12), none, (some 43), [12]⟩,
  ⟨.load (some 10) (.tmp 16), none, (some 44), [16]⟩,
  ⟨.call 51 [(.tmp 44)], none, (some 45), [44]⟩,
  ⟨.mkfrz [(.str []), (.str []), (.int .i64 0), (.int .i64 0), (.int .i64 0), (.str []), (.int .i64 0), (.str []), (.int .i64 0), .nils] 1 [(0, (.tmp 45))], none, (some 46), [45]⟩,
  ⟨.append 10 128 (.tmp 43) (.tmp 46), none, (some 47), [43, 46]⟩,
  ⟨.mv (.tmp 47), none, (some 12), [47]⟩]
def m44r14 : List MOper := [⟨.mv (.tmp 13), none, (some 48), [13]⟩,
  ⟨.bin .add .other (.tmp 48) (.lit (.int .i64 1)), none, (some 49), [48]⟩,
  ⟨.mv (.tmp 49), none, (some 13), [49]⟩]
def m44r15 : List MOper := [⟨.bin .add .other (.tmp 39) (.lit (.int .i64 1)), none, (some 85), [39]⟩,
  ⟨.mv (.tmp 85), none, (some 39), [85]⟩]
def m44l16 : MCode := (.seq (.region m44r6 [2, 3, 5, 9, 12, 13, 14, 37, 38, 39, 40])
  (.seq (.cond (.tmp 40)
  .skip
  (.exit 0))
  (.seq (.block 1 (.seq (.region m44r7 [2, 3, 5, 9, 12, 13, 14, 16, 37, 38, 39])
  (.block 2 (.seq (.region m44r8 [2, 3, 5, 9, 12, 13, 14, 16, 37, 38, 39, 50])
  (.cond (.tmp 50)
  (.region m44r9 [2, 3, 5, 9, 12, 13, 14, 37, 38, 39])
  (.seq (.region m44r10 [2, 3, 5, 9, 12, 13, 14, 16, 37, 38, 39, 61])
  (.cond (.tmp 61)
  .skip
  (.seq (.region m44r11 [2, 3, 5, 9, 12, 13, 14, 16, 37, 38, 39, 66])
  (.cond (.tmp 66)
  (.region m44r12 [2, 3, 5, 9, 12, 13, 14, 37, 38, 39])
  (.seq (.region m44r13 [2, 3, 5, 9, 12, 13, 14, 37, 38, 39])
  (.region m44r14 [2, 3, 5, 9, 12, 13, 14, 37, 38, 39])))))))))))
  (.region m44r15 [2, 3, 5, 9, 12, 13, 14, 37, 38, 39]))))
def m44r17 : List MOper := [⟨.mv (.tmp 14), none, (some 86), [14]⟩]
def m44r18 : List MOper := [⟨.mv (.lit .nils), none, (some 10), []⟩,
  ⟨.mv (.lit (.int .u8 13)), none, (some 11), []⟩]
def m44r19 : List MOper := [⟨.faddr 4 (.tmp 9), none, (some 87), [9]⟩,
  ⟨.load none (.tmp 87), none, (some 88), [87]⟩,
  ⟨.len 1 (.tmp 88), none, (some 89), [88]⟩,
  ⟨.mv (.lit (.int .i64 0)), none, (some 90), []⟩]
def m44r20 : List MOper := [⟨.bin .lss .other (.tmp 90) (.tmp 89), none, (some 91), [90, 89]⟩]
def m44r21 : List MOper := [⟨.iaddr 3 (.tmp 88) (.tmp 90), none, (some 92), [88, 90]⟩,
  ⟨.load (some 3) (.tmp 92), none, (some 93), [92]⟩,
  ⟨.zbox [(.str []), (.int .i64 0), (.int .i64 0)], none, (some 18), []⟩,
  ⟨.store 3 (.tmp 18) (.tmp 93), none, none, [18, 93]⟩]
def m44r22 : List MOper := [⟨.load (some 4) (.tmp 5), none, (some 94), [5]⟩,
  ⟨.load (some 9) (.tmp 9), none, (some 95), [9]⟩,
  ⟨.load (some 3) (.tmp 18), none, (some 96), [18]⟩,
  ⟨.call 56 [(.tmp 94), (.tmp 95), (.tmp 96)], none, (some 97), [94, 95, 96]⟩,
  ⟨.mv (.tmp 97), none, (some 19), [97]⟩]
def m44r23 : List MOper := [⟨.mv (.tmp 19), none, (some 98), [19]⟩,
  ⟨.bin .gtr .other (.tmp 98) (.lit (.int .i64 0)), none, (some 99), [98]⟩,
  ⟨.mv (.tmp 99), none, (some 100), [99]⟩,
  ⟨.mv (.tmp 19), (some (100, true)), (some 101), [19]⟩,
  ⟨.faddr 0 (.tmp 5), (some (100, true)), (some 102), [5]⟩,
  ⟨.load none (.tmp 102), (some (100, true)), (some 103), [102]⟩,
  ⟨.bin .lss .other (.tmp 101) (.tmp 103), (some (100, true)), (some 104), [101, 103]⟩,
  ⟨.pick (.tmp 100) (.tmp 104) (.lit (.bool false)), none, (some 105), [100, 104]⟩]
def m44r24 : List MOper := [⟨.mv (.lit .nils), none, (some 10), []⟩,
  ⟨.mv (.lit (.int .u8 16)), none, (some 11), []⟩]
def m44r25 : List MOper := [⟨.mv (.tmp 19), none, (some 106), [19]⟩,
  ⟨.bin .eql .other (.tmp 106) (.lit (.int .i64 0)), none, (some 107), [106]⟩]
def m44r26 : List MOper := [⟨.mv (.tmp 13), none, (some 108), [13]⟩,
  ⟨.bin .add .other (.tmp 108) (.lit (.int .i64 1)), none, (some 109), [108]⟩,
  ⟨.mv (.tmp 109), none, (some 13), [109]⟩]
def m44r27 : List MOper := [⟨.mv (.tmp 12), none, (some 110), [12]⟩,
  ⟨.faddr 0 (.tmp 9), none, (some 111), [9]⟩,
  ⟨.load none (.tmp 111), none, (some 112), [111]⟩,
  ⟨.faddr 0 (.tmp 18), none, (some 113), [18]⟩,
  ⟨.load none (.tmp 113), none, (some 114), [113]⟩,
  ⟨.faddr 1 (.tmp 18), none, (some 115), [18]⟩,
  ⟨.load none (.tmp 115), none, (some 116), [115]⟩,
  ⟨.mv (.tmp 2), none, (some 117), [2]⟩,
  ⟨.mv (.tmp 19), none, (some 118), [19]⟩,
  ⟨.bin .mul .other (.lit (.int .i64 1000)) (.tmp 118), none, (some 119), [118]⟩,
  ⟨.bin .add .other (.tmp 117) (.tmp 119), none, (some 120), [117, 119]⟩,
  ⟨.mv (.tmp 3), none, (some 121), [3]⟩,
  ⟨.faddr 1 (.tmp 9), none, (some 122), [9]⟩,
  ⟨.load none (.tmp 122), none, (some 123), [122]⟩,
  ⟨.faddr 2 (.tmp 9), none, (some 124), [9]⟩,
  ⟨.load none (.tmp 124), none, (some 125), [124]⟩,
  ⟨.faddr 6 (.tmp 9), none, (some 126), [9]⟩,
  ⟨.load none (.tmp 126), none, (some 127), [126]⟩,
  ⟨.faddr 7 (.tmp 9), none, (some 128), [9]⟩,
  ⟨.load none (.tmp 128), none, (some 129), [128]⟩,
  ⟨.faddr 8 (.tmp 9), none, (some 130), [9]⟩,
  ⟨.load none (.tmp 130), none, (some 131), [130]⟩,
  ⟨.build [(.str []), (.str []), (.int .i64 0), (.int .i64 0), (.int .i64 0), (.str []), (.int .i64 0), (.str []), (.int .i64 0), .nils] [(0, 1, (.tmp 112)), (1, 1, (.tmp 114)), (2, 1, (.tmp 116)), (3, 1, (.tmp 120)), (4, 1, (.tmp 121)), (5, 1, (.tmp 123)), (6, 1, (.tmp 125)), (7, 1, (.tmp 127)), (8, 1, (.tmp 129)), (9, 1, (.tmp 131))], none, (some 132), [112, 114, 116, 120, 121, 123, 125, 127, 129, 131]⟩,
  ⟨.call 51 [(.tmp 132)], none, (some 133), [132]⟩,
  ⟨.mkfrz [(.str []), (.str []), (.int .i64 0), (.int .i64 0), (.int .i64 0), (.str []), (.int .i64 0), (.str []), (.int .i64 0), .nils] 1 [(0, (.tmp 133))], none, (some 134), [133]⟩,
  ⟨.append 10 128 (.tmp 110) (.tmp 134), none, (some 135), [110, 134]⟩,
  ⟨.mv (.tmp 135), none, (some 12), [135]⟩]
def m44r28 : List MOper := [⟨.bin .add .other (.tmp 90) (.lit (.int .i64 1)), none, (some 136), [90]⟩,
  ⟨.mv (.tmp 136), none, (some 90), [136]⟩]
def m44l29 : MCode := (.seq (.region m44r20 [2, 3, 5, 9, 12, 13, 88, 89, 90, 91])
  (.seq (.cond (.tmp 91)
  .skip
  (.exit 3))
  (.seq (.block 4 (.seq (.region m44r21 [2, 3, 5, 9, 12, 13, 18, 88, 89, 90])
  (.seq (.region m44r22 [2, 3, 5, 9, 12, 13, 18, 19, 88, 89, 90])
  (.seq (.seq (.region m44r23 [2, 3, 5, 9, 12, 13, 18, 19, 88, 89, 90, 105])
  (.cond (.tmp 105)
  (.seq (.region m44r24 [10, 11])
  .ret)
  .skip))
  (.seq (.seq (.region m44r25 [2, 3, 5, 9, 12, 13, 18, 19, 88, 89, 90, 107])
  (.cond (.tmp 107)
  (.exit 4)
  .skip))
  (.seq (.region m44r26 [2, 3, 5, 9, 12, 13, 18, 19, 88, 89, 90])
  (.region m44r27 [2, 3, 5, 9, 12, 13, 88, 89, 90])))))))
  (.region m44r28 [2, 3, 5, 9, 12, 13, 88, 89, 90]))))
def m44r30 : List MOper := [⟨.mv (.tmp 13), none, (some 137), [13]⟩,
  ⟨.faddr 3 (.tmp 5), none, (some 138), [5]⟩,
  ⟨.load none (.tmp 138), none, (some 139), [138]⟩,
  ⟨.bin .gtr .other (.tmp 137) (.tmp 139), none, (some 140), [137, 139]⟩]
def m44r31 : List MOper := [⟨.mv (.lit .nils), none, (some 10), []⟩,
  ⟨.mv (.lit (.int .u8 10)), none, (some 11), []⟩]
def m44r32 : List MOper := [⟨.mv (.tmp 12), none, (some 141), [12]⟩,
  ⟨.mv (.tmp 141), none, (some 10), [141]⟩,
  ⟨.mv (.lit (.int .u8 0)), none, (some 11), []⟩]
def m44 : MFunc := ⟨142, [.tmp 10, .tmp 11],
  (.seq (.region m44r0 [1, 2, 3, 5, 9])
  (.seq (.seq (.region m44r1 [1, 2, 3, 5, 9, 36])
  (.cond (.tmp 36)
  (.seq (.region m44r2 [10, 11])
  .ret)
  .skip))
  (.seq (.region m44r3 [1, 2, 3, 5, 9, 12])
  (.seq (.region m44r4 [1, 2, 3, 5, 9, 12, 13, 14])
  (.seq (.seq (.region m44r5 [2, 3, 5, 9, 12, 13, 14, 37, 38, 39])
  (.block 0 (.loop [2, 3, 5, 9, 12, 13, 14, 37, 38, 39] m44l16)))
  (.seq (.seq (.region m44r17 [2, 3, 5, 9, 12, 13, 86])
  (.cond (.tmp 86)
  (.seq (.region m44r18 [10, 11])
  .ret)
  .skip))
  (.seq (.seq (.region m44r19 [2, 3, 5, 9, 12, 13, 88, 89, 90])
  (.block 3 (.loop [2, 3, 5, 9, 12, 13, 88, 89, 90] m44l29)))
  (.seq (.seq (.region m44r30 [12, 140])
  (.cond (.tmp 140)
  (.seq (.region m44r31 [10, 11])
  .ret)
  .skip))
  (.seq (.region m44r32 [10, 11])
  .ret)))))))))⟩
def h44 : List RH := [⟨[1, 2, 3, 5, 9], 0, false, []⟩, ⟨[1, 2, 3, 5, 9, 36], 0, false, []⟩, ⟨[10, 11], 0, false, []⟩, ⟨[1, 2, 3, 5, 9, 12], 0, false, []⟩, ⟨[1, 2, 3, 5, 9, 12, 13, 14], 0, false, []⟩, ⟨[2, 3, 5, 9, 12, 13, 14, 37, 38, 39], 0, false, []⟩, ⟨[2, 3, 5, 9, 12, 13, 14, 37, 38, 39], 0, false, []⟩, ⟨[2, 3, 5, 9, 12, 13, 14, 37, 38, 39, 40], 0, false, []⟩, ⟨[2, 3, 5, 9, 12, 13, 14, 16, 37, 38, 39], 0, false, []⟩, ⟨[2, 3, 5, 9, 12, 13, 14, 16, 37, 38, 39, 50], 0, false, []⟩, ⟨[2, 3, 5, 9, 12, 13, 14, 37, 38, 39], 0, false, []⟩, ⟨[2, 3, 5, 9, 12, 13, 14, 16, 37, 38, 39, 61], 0, false, []⟩, ⟨[2, 3, 5, 9, 12, 13, 14, 16, 37, 38, 39, 66], 0, false, []⟩, ⟨[2, 3, 5, 9, 12, 13, 14, 37, 38, 39], 0, false, []⟩, ⟨[2, 3, 5, 9, 12, 13, 14, 37, 38, 39], 0, false, []⟩, ⟨[2, 3, 5, 9, 12, 13, 14, 37, 38, 39], 0, false, []⟩, ⟨[2, 3, 5, 9, 12, 13, 14, 37, 38, 39], 0, false, []⟩, ⟨[2, 3, 5, 9, 12, 13, 86], 0, false, []⟩, ⟨[10, 11], 0, false, []⟩, ⟨[2, 3, 5, 9, 12, 13, 88, 89, 90], 0, false, []⟩, ⟨[2, 3, 5, 9, 12, 13, 88, 89, 90], 0, false, []⟩, ⟨[2, 3, 5, 9, 12, 13, 88, 89, 90, 91], 0, false, []⟩, ⟨[2, 3, 5, 9, 12, 13, 18, 88, 89, 90], 0, false, []⟩, ⟨[2, 3, 5, 9, 12, 13, 18, 19, 88, 89, 90], 0, false, []⟩, ⟨[2, 3, 5, 9, 12, 13, 18, 19, 88, 89, 90, 105], 0, false, []⟩, ⟨[10, 11], 0, false, []⟩, ⟨[2, 3, 5, 9, 12, 13, 18, 19, 88, 89, 90, 107], 0, false, []⟩, ⟨[2, 3, 5, 9, 12, 13, 18, 19, 88, 89, 90], 0, false, []⟩, ⟨[2, 3, 5, 9, 12, 13, 88, 89, 90], 0, false, []⟩, ⟨[2, 3, 5, 9, 12, 13, 88, 89, 90], 0, false, []⟩, ⟨[12, 140], 0, false, []⟩, ⟨[10, 11], 0, false, []⟩, ⟨[10, 11], 0, false, []⟩]
theorem m44_ok : cmpFn Try.prog 44 h44 = some m44 := by kernel_rfl

/- dialtone/journal.Append -/
def m45r0 : List MOper := [⟨.box 3 (.tmp 0), none, (some 2), [0]⟩,
  ⟨.box 2 (.tmp 1), none, (some 3), [1]⟩,
  ⟨.zbox [.nils, (.int .i64 0), (.int .i64 0)], none, (some 4), []⟩,
  ⟨.mv (.lit (.int .u8 0)), none, (some 5), []⟩]
def m45r1 : List MOper := [⟨.load (some 3) (.tmp 2), none, (some 9), [2]⟩,
  ⟨.call 53 [(.tmp 9)], none, (some 10), [9]⟩,
  ⟨.un .not (.tmp 10), none, (some 11), [10]⟩,
  ⟨.mv (.tmp 11), none, (some 8), [11]⟩]
def m45r2 : List MOper := [⟨.build [.nils, (.int .i64 0), (.int .i64 0)] [], none, (some 12), []⟩,
  ⟨.store 3 (.tmp 4) (.tmp 12), none, none, [4, 12]⟩,
  ⟨.mv (.lit (.int .u8 2)), none, (some 5), []⟩]
def m45r3 : List MOper := [⟨.faddr 2 (.tmp 2), none, (some 14), [2]⟩,
  ⟨.load none (.tmp 14), none, (some 15), [14]⟩,
  ⟨.bin .eql .other (.tmp 15) (.lit (.int .i64 1048576)), none, (some 16), [15]⟩,
  ⟨.mv (.tmp 16), none, (some 13), [16]⟩]
def m45r4 : List MOper := [⟨.build [.nils, (.int .i64 0), (.int .i64 0)] [], none, (some 17), []⟩,
  ⟨.store 3 (.tmp 4) (.tmp 17), none, none, [4, 17]⟩,
  ⟨.mv (.lit (.int .u8 10)), none, (some 5), []⟩]
def m45r5 : List MOper := [⟨.faddr 2 (.tmp 2), none, (some 19), [2]⟩,
  ⟨.load none (.tmp 19), none, (some 20), [19]⟩,
  ⟨.load (some 2) (.tmp 3), none, (some 21), [3]⟩,
  ⟨.call 57 [(.tmp 20), (.tmp 21)], none, (some 22), [20, 21]⟩,
  ⟨.mv (.tmp 22), none, (some 18), [22]⟩,
  ⟨.ext 0 (.tmp 18), none, (some 23), [18]⟩,
  ⟨.ext 1 (.tmp 18), none, (some 24), [18]⟩,
  ⟨.mv (.tmp 23), none, (some 6), [23]⟩,
  ⟨.mv (.tmp 24), none, (some 7), [24]⟩]
def m45r6 : List MOper := [⟨.mv (.tmp 7), none, (some 25), [7]⟩,
  ⟨.bin .neq .other (.tmp 25) (.lit (.int .u8 0)), none, (some 26), [25]⟩]
def m45r7 : List MOper := [⟨.build [.nils, (.int .i64 0), (.int .i64 0)] [], none, (some 27), []⟩,
  ⟨.mv (.tmp 7), none, (some 28), [7]⟩,
  ⟨.store 3 (.tmp 4) (.tmp 27), none, none, [4, 27]⟩,
  ⟨.mv (.tmp 28), none, (some 5), [28]⟩]
def m45r8 : List MOper := [⟨.faddr 0 (.tmp 2), none, (some 29), [2]⟩,
  ⟨.load none (.tmp 29), none, (some 30), [29]⟩,
  ⟨.append 1 1 (.lit .nils) (.tmp 30), none, (some 31), [30]⟩,
  ⟨.mv (.tmp 6), none, (some 32), [6]⟩,
  ⟨.append 1 1 (.tmp 31) (.tmp 32), none, (some 33), [31, 32]⟩,
  ⟨.faddr 0 (.tmp 2), none, (some 34), [2]⟩,
  ⟨.store 1 (.tmp 34) (.tmp 33), none, none, [34, 33]⟩]
def m45r9 : List MOper := [⟨.faddr 2 (.tmp 2), none, (some 35), [2]⟩,
  ⟨.load none (.tmp 35), none, (some 36), [35]⟩,
  ⟨.bin .add .other (.tmp 36) (.lit (.int .i64 1)), none, (some 37), [36]⟩,
  ⟨.faddr 2 (.tmp 2), none, (some 38), [2]⟩,
  ⟨.store 1 (.tmp 38) (.tmp 37), none, none, [38, 37]⟩]
def m45r10 : List MOper := [⟨.load (some 3) (.tmp 2), none, (some 39), [2]⟩,
  ⟨.store 3 (.tmp 4) (.tmp 39), none, none, [4, 39]⟩,
  ⟨.mv (.lit (.int .u8 0)), none, (some 5), []⟩]
def m45 : MFunc := ⟨40, [.cell 4 (some 3), .tmp 5],
  (.seq (.region m45r0 [2, 3, 4])
  (.seq (.block 0 (.seq (.region m45r1 [2, 3, 4, 8])
  (.cond (.tmp 8)
  (.seq (.region m45r2 [4, 5])
  .ret)
  (.seq (.region m45r3 [2, 3, 4, 13])
  (.cond (.tmp 13)
  (.seq (.region m45r4 [4, 5])
  .ret)
  .skip)))))
  (.seq (.region m45r5 [2, 4, 6, 7])
  (.seq (.seq (.region m45r6 [2, 4, 6, 7, 26])
  (.cond (.tmp 26)
  (.seq (.region m45r7 [4, 5])
  .ret)
  .skip))
  (.seq (.region m45r8 [2, 4])
  (.seq (.region m45r9 [2, 4])
  (.seq (.region m45r10 [4, 5])
  .ret)))))))⟩
def h45 : List RH := [⟨[2, 3, 4], 0, false, []⟩, ⟨[2, 3, 4, 8], 0, false, []⟩, ⟨[4, 5], 0, false, []⟩, ⟨[2, 3, 4, 13], 0, false, []⟩, ⟨[4, 5], 0, false, []⟩, ⟨[2, 4, 6, 7], 0, false, []⟩, ⟨[2, 4, 6, 7, 26], 0, false, []⟩, ⟨[4, 5], 0, false, []⟩, ⟨[2, 4], 0, false, []⟩, ⟨[2, 4], 0, false, []⟩, ⟨[4, 5], 0, false, []⟩]
theorem m45_ok : cmpFn Try.prog 45 h45 = some m45 := by kernel_rfl

/- dialtone/registrar.Lookup -/
def m46r0 : List MOper := [⟨.mv (.lit .nils), none, (some 6), []⟩]
def m46r1 : List MOper := [⟨.mv (.lit .nils), none, (some 7), []⟩]
def m46r2 : List MOper := [⟨.mv (.tmp 0), none, (some 10), [0]⟩,
  ⟨.len 1 (.tmp 10), none, (some 11), [10]⟩,
  ⟨.mv (.lit (.int .i64 0)), none, (some 12), []⟩]
def m46r3 : List MOper := [⟨.bin .lss .other (.tmp 12) (.tmp 11), none, (some 13), [12, 11]⟩]
def m46r4 : List MOper := [⟨.iaddr 10 (.tmp 10) (.tmp 12), none, (some 14), [10, 12]⟩,
  ⟨.load (some 10) (.tmp 14), none, (some 15), [14]⟩,
  ⟨.zbox [(.str []), (.str []), (.int .i64 0), (.int .i64 0), (.int .i64 0), (.str []), (.int .i64 0), (.str []), (.int .i64 0), .nils], none, (some 9), []⟩,
  ⟨.store 10 (.tmp 9) (.tmp 15), none, none, [9, 15]⟩]
def m46r5 : List MOper := [⟨.faddr 0 (.tmp 9), none, (some 16), [9]⟩,
  ⟨.load none (.tmp 16), none, (some 17), [16]⟩,
  ⟨.mv (.tmp 2), none, (some 18), [2]⟩,
  ⟨.bin .eql .other (.tmp 17) (.tmp 18), none, (some 19), [17, 18]⟩,
  ⟨.mv (.tmp 19), none, (some 20), [19]⟩,
  ⟨.faddr 3 (.tmp 9), (some (20, true)), (some 21), [9]⟩,
  ⟨.load none (.tmp 21), (some (20, true)), (some 22), [21]⟩,
  ⟨.mv (.tmp 1), (some (20, true)), (some 23), [1]⟩,
  ⟨.bin .gtr .other (.tmp 22) (.tmp 23), (some (20, true)), (some 24), [22, 23]⟩,
  ⟨.pick (.tmp 20) (.tmp 24) (.lit (.bool false)), none, (some 25), [20, 24]⟩]
def m46r6 : List MOper := [⟨.mv (.tmp 7), none, (some 26), [7]⟩,
  ⟨.load (some 10) (.tmp 9), none, (some 27), [9]⟩,
  ⟨.call 51 [(.tmp 27)], none, (some 28), [27]⟩,
  ⟨.mkfrz [(.str []), (.str []), (.int .i64 0), (.int .i64 0), (.int .i64 0), (.str []), (.int .i64 0), (.str []), (.int .i64 0), .nils] 1 [(0, (.tmp 28))], none, (some 29), [28]⟩,
  ⟨.append 10 128 (.tmp 26) (.tmp 29), none, (some 30), [26, 29]⟩,
  ⟨.mv (.tmp 30), none, (some 7), [30]⟩]
def m46r7 : List MOper := [⟨.bin .add .other (.tmp 12) (.lit (.int .i64 1)), none, (some 31), [12]⟩,
  ⟨.mv (.tmp 31), none, (some 12), [31]⟩]
def m46l8 : MCode := (.seq (.region m46r3 [1, 2, 7, 10, 11, 12, 13])
  (.seq (.cond (.tmp 13)
  .skip
  (.exit 0))
  (.seq (.block 1 (.seq (.region m46r4 [1, 2, 7, 9, 10, 11, 12])
  (.seq (.region m46r5 [1, 2, 7, 9, 10, 11, 12, 25])
  (.cond (.tmp 25)
  (.region m46r6 [1, 2, 7, 10, 11, 12])
  .skip))))
  (.region m46r7 [1, 2, 7, 10, 11, 12]))))
def m46r9 : List MOper := [⟨.mv (.tmp 7), none, (some 32), [7]⟩,
  ⟨.call 58 [(.tmp 32), (.lit (.func 59 [] []))], none, (some 33), [32]⟩]
def m46r10 : List MOper := [⟨.mv (.tmp 7), none, (some 34), [7]⟩,
  ⟨.mv (.tmp 34), none, (some 6), [34]⟩]
def m46 : MFunc := ⟨35, [.tmp 6],
  (.seq (.region m46r0 [0, 1, 2])
  (.seq (.region m46r1 [0, 1, 2, 7])
  (.seq (.seq (.region m46r2 [1, 2, 7, 10, 11, 12])
  (.block 0 (.loop [1, 2, 7, 10, 11, 12] m46l8)))
  (.seq (.region m46r9 [7])
  (.seq (.region m46r10 [6])
  .ret)))))⟩
def h46 : List RH := [⟨[0, 1, 2], 0, false, []⟩, ⟨[0, 1, 2, 7], 0, false, []⟩, ⟨[1, 2, 7, 10, 11, 12], 0, false, []⟩, ⟨[1, 2, 7, 10, 11, 12], 0, false, []⟩, ⟨[1, 2, 7, 10, 11, 12, 13], 0, false, []⟩, ⟨[1, 2, 7, 9, 10, 11, 12], 0, false, []⟩, ⟨[1, 2, 7, 9, 10, 11, 12, 25], 0, false, []⟩, ⟨[1, 2, 7, 10, 11, 12], 0, false, []⟩, ⟨[1, 2, 7, 10, 11, 12], 0, false, []⟩, ⟨[7], 0, false, []⟩, ⟨[6], 0, false, []⟩]
theorem m46_ok : cmpFn Try.prog 46 h46 = some m46 := by kernel_rfl

/- dialtone/journal.Recover -/
def m47r0 : List MOper := [⟨.zbox [.nils, (.int .i64 0), (.int .i64 0)], none, (some 2), []⟩,
  ⟨.mv (.lit .nils), none, (some 3), []⟩]
def m47r1 : List MOper := [⟨.mv (.tmp 0), none, (some 8), [0]⟩,
  ⟨.call 63 [(.tmp 8)], none, (some 9), [8]⟩,
  ⟨.mv (.tmp 9), none, (some 7), [9]⟩,
  ⟨.ext 0 (.tmp 7), none, (some 10), [7]⟩,
  ⟨.ext 1 (.tmp 7), none, (some 11), [7]⟩,
  ⟨.ext 2 (.tmp 7), none, (some 12), [7]⟩,
  ⟨.mv (.tmp 10), none, (some 4), [10]⟩,
  ⟨.mv (.tmp 11), none, (some 5), [11]⟩,
  ⟨.mv (.tmp 12), none, (some 6), [12]⟩]
def m47r2 : List MOper := [⟨.mv (.tmp 0), none, (some 13), [0]⟩,
  ⟨.mv (.tmp 5), none, (some 14), [5]⟩,
  ⟨.slc 1 (.tmp 13) none (some (.tmp 14)) none, none, (some 15), [13, 14]⟩,
  ⟨.append 1 1 (.lit .nils) (.tmp 15), none, (some 16), [15]⟩,
  ⟨.mv (.tmp 5), none, (some 17), [5]⟩,
  ⟨.mv (.tmp 4), none, (some 18), [4]⟩,
  ⟨.len 1 (.tmp 18), none, (some 19), [18]⟩,
  ⟨.build [.nils, (.int .i64 0), (.int .i64 0)] [(0, 1, (.tmp 16)), (1, 1, (.tmp 17)), (2, 1, (.tmp 19))], none, (some 20), [16, 17, 19]⟩,
  ⟨.mv (.tmp 4), none, (some 21), [4]⟩,
  ⟨.store 3 (.tmp 2) (.tmp 20), none, none, [2, 20]⟩,
  ⟨.mv (.tmp 21), none, (some 3), [21]⟩]
def m47 : MFunc := ⟨22, [.cell 2 (some 3), .tmp 3],
  (.seq (.region m47r0 [0, 2])
  (.seq (.region m47r1 [0, 2, 4, 5])
  (.seq (.region m47r2 [2, 3])
  .ret)))⟩
def h47 : List RH := [⟨[0, 2], 0, false, []⟩, ⟨[0, 2, 4, 5], 0, false, []⟩, ⟨[2, 3], 0, false, []⟩]
theorem m47_ok : cmpFn Try.prog 47 h47 = some m47 := by kernel_rfl

/- (*dialtone/registrar.Registrar).replay -/
def m48r0 : List MOper := [⟨.box 2 (.tmp 2), none, (some 5), [2]⟩,
  ⟨.mv (.lit (.int .u8 0)), none, (some 6), []⟩]
def m48r1 : List MOper := [⟨.faddr 1 (.tmp 5), none, (some 12), [5]⟩,
  ⟨.load none (.tmp 12), none, (some 13), [12]⟩,
  ⟨.call 15 [(.tmp 13)], none, (some 14), [13]⟩,
  ⟨.mv (.tmp 14), none, (some 11), [14]⟩,
  ⟨.ext 0 (.tmp 11), none, (some 15), [11]⟩,
  ⟨.ext 1 (.tmp 11), none, (some 16), [11]⟩,
  ⟨.ext 2 (.tmp 11), none, (some 17), [11]⟩,
  ⟨.zbox [(.str []), (.str []), (.int .i64 0), (.bool false), .nils, (.int .i64 0), (.str []), (.int .i64 0), .nils], none, (some 8), []⟩,
  ⟨.mv (.tmp 15), none, (some 7), [15]⟩,
  ⟨.store 9 (.tmp 8) (.tmp 16), none, none, [8, 16]⟩,
  ⟨.mv (.tmp 17), none, (some 9), [17]⟩]
def m48r2 : List MOper := [⟨.faddr 0 (.tmp 5), none, (some 18), [5]⟩,
  ⟨.load none (.tmp 18), none, (some 19), [18]⟩,
  ⟨.bin .neq .other (.tmp 19) (.lit (.int .u8 1)), none, (some 20), [19]⟩,
  ⟨.mv (.tmp 20), none, (some 21), [20]⟩,
  ⟨.mv (.tmp 9), (some (21, false)), (some 22), [9]⟩,
  ⟨.bin .neq .other (.tmp 22) (.lit (.int .u8 0)), (some (21, false)), (some 23), [22]⟩,
  ⟨.pick (.tmp 21) (.lit (.bool true)) (.tmp 23), none, (some 24), [21, 23]⟩,
  ⟨.mv (.tmp 24), none, (some 25), [24]⟩,
  ⟨.mv (.tmp 7), (some (25, false)), (some 26), [7]⟩,
  ⟨.mv (.tmp 0), (some (25, false)), (some 27), [0]⟩,
  ⟨.nilchk (.tmp 27), (some (25, false)), (some 28), [27]⟩,
  ⟨.faddr 9 (.tmp 28), (some (25, false)), (some 29), [28]⟩,
  ⟨.load none (.tmp 29), (some (25, false)), (some 30), [29]⟩,
  ⟨.bin .lss .other (.tmp 26) (.tmp 30), (some (25, false)), (some 31), [26, 30]⟩,
  ⟨.pick (.tmp 25) (.lit (.bool true)) (.tmp 31), none, (some 32), [25, 31]⟩]
def m48r3 : List MOper := [⟨.mv (.lit (.int .u8 5)), none, (some 6), []⟩]
def m48r4 : List MOper := [⟨.mv (.tmp 0), none, (some 34), [0]⟩,
  ⟨.nilchk (.tmp 34), none, (some 35), [34]⟩,
  ⟨.faddr 1 (.tmp 35), none, (some 36), [35]⟩,
  ⟨.load (some 4) (.tmp 36), none, (some 37), [36]⟩,
  ⟨.mv (.tmp 0), none, (some 38), [0]⟩,
  ⟨.nilchk (.tmp 38), none, (some 39), [38]⟩,
  ⟨.faddr 5 (.tmp 39), none, (some 40), [39]⟩,
  ⟨.load none (.tmp 40), none, (some 41), [40]⟩,
  ⟨.mv (.tmp 7), none, (some 42), [7]⟩,
  ⟨.mv (.tmp 1), none, (some 43), [1]⟩,
  ⟨.load (some 9) (.tmp 8), none, (some 44), [8]⟩,
  ⟨.call 44 [(.tmp 37), (.tmp 41), (.tmp 42), (.tmp 43), (.tmp 44)], none, (some 45), [37, 41, 42, 43, 44]⟩,
  ⟨.mv (.tmp 45), none, (some 33), [45]⟩,
  ⟨.ext 0 (.tmp 33), none, (some 46), [33]⟩,
  ⟨.ext 1 (.tmp 33), none, (some 47), [33]⟩]
def m48r5 : List MOper := [⟨.mv (.tmp 46), none, (some 10), [46]⟩,
  ⟨.mv (.tmp 47), none, (some 9), [47]⟩]
def m48r6 : List MOper := [⟨.mv (.tmp 9), none, (some 48), [9]⟩,
  ⟨.bin .neq .other (.tmp 48) (.lit (.int .u8 0)), none, (some 49), [48]⟩]
def m48r7 : List MOper := [⟨.mv (.lit (.int .u8 5)), none, (some 6), []⟩]
def m48r8 : List MOper := [⟨.mv (.tmp 0), none, (some 50), [0]⟩,
  ⟨.mv (.tmp 0), none, (some 51), [0]⟩,
  ⟨.mv (.tmp 10), none, (some 52), [10]⟩,
  ⟨.mv (.tmp 7), none, (some 53), [7]⟩,
  ⟨.nilchk (.tmp 50), none, (some 54), [50]⟩,
  ⟨.faddr 5 (.tmp 54), none, (some 55), [54]⟩,
  ⟨.store 1 (.tmp 55) (.tmp 52), none, none, [55, 52]⟩,
  ⟨.nilchk (.tmp 51), none, (some 56), [51]⟩,
  ⟨.faddr 9 (.tmp 56), none, (some 57), [56]⟩,
  ⟨.store 1 (.tmp 57) (.tmp 53), none, none, [57, 53]⟩]
def m48r9 : List MOper := [⟨.mv (.lit (.int .u8 0)), none, (some 6), []⟩]
def m48 : MFunc := ⟨58, [.tmp 6],
  (.seq (.region m48r0 [0, 1, 5])
  (.seq (.region m48r1 [0, 1, 5, 7, 8, 9])
  (.seq (.seq (.region m48r2 [0, 1, 7, 8, 32])
  (.cond (.tmp 32)
  (.seq (.region m48r3 [6])
  .ret)
  .skip))
  (.seq (.dregion m48r4 m48r5 [] [0, 7, 9, 10])
  (.seq (.seq (.region m48r6 [0, 7, 10, 49])
  (.cond (.tmp 49)
  (.seq (.region m48r7 [6])
  .ret)
  .skip))
  (.seq (.region m48r8 [])
  (.seq (.region m48r9 [6])
  .ret)))))))⟩
def h48 : List RH := [⟨[0, 1, 5], 0, false, []⟩, ⟨[0, 1, 5, 7, 8, 9], 0, false, []⟩, ⟨[0, 1, 7, 8, 32], 0, false, []⟩, ⟨[6], 0, false, []⟩, ⟨[0, 7, 9, 10], 15, false, []⟩, ⟨[0, 7, 10, 49], 0, false, []⟩, ⟨[6], 0, false, []⟩, ⟨[], 0, false, []⟩, ⟨[6], 0, false, []⟩]
theorem m48_ok : cmpFn Try.prog 48 h48 = some m48 := by kernel_rfl

/- slices.Clone[[]byte,byte] -/
def m49r0 : List MOper := [⟨.mv (.lit .nils), none, (some 2), []⟩]
def m49r1 : List MOper := [⟨.mv (.tmp 0), none, (some 3), [0]⟩,
  ⟨.bin .eql .slice (.tmp 3) (.lit .nils), none, (some 4), [3]⟩]
def m49r2 : List MOper := [⟨.mv (.lit .nils), none, (some 2), []⟩]
def m49r3 : List MOper := [⟨.mkslice [(.int .u8 0)] 0 [], none, (some 5), []⟩,
  ⟨.mv (.tmp 0), none, (some 6), [0]⟩,
  ⟨.append 1 1 (.tmp 5) (.tmp 6), none, (some 7), [5, 6]⟩,
  ⟨.mv (.tmp 7), none, (some 2), [7]⟩]
def m49 : MFunc := ⟨8, [.tmp 2],
  (.seq (.region m49r0 [0])
  (.seq (.seq (.region m49r1 [0, 4])
  (.cond (.tmp 4)
  (.seq (.region m49r2 [2])
  .ret)
  .skip))
  (.seq (.region m49r3 [2])
  .ret)))⟩
def h49 : List RH := [⟨[0], 0, false, []⟩, ⟨[0, 4], 0, false, []⟩, ⟨[2], 0, false, []⟩, ⟨[2], 0, false, []⟩]
theorem m49_ok : cmpFn Try.prog 49 h49 = some m49 := by kernel_rfl

/- slices.Clone[[]dialtone/api.Binding,dialtone/api.Binding] -/
def m50r0 : List MOper := [⟨.mv (.lit .nils), none, (some 2), []⟩]
def m50r1 : List MOper := [⟨.mv (.tmp 0), none, (some 3), [0]⟩,
  ⟨.bin .eql .slice (.tmp 3) (.lit .nils), none, (some 4), [3]⟩]
def m50r2 : List MOper := [⟨.mv (.lit .nils), none, (some 2), []⟩]
def m50r3 : List MOper := [⟨.mkslice [(.str []), (.str []), (.int .i64 0), (.int .i64 0), (.int .i64 0), (.str []), (.int .i64 0), (.str []), (.int .i64 0), .nils] 0 [], none, (some 5), []⟩,
  ⟨.mv (.tmp 0), none, (some 6), [0]⟩,
  ⟨.append 10 128 (.tmp 5) (.tmp 6), none, (some 7), [5, 6]⟩,
  ⟨.mv (.tmp 7), none, (some 2), [7]⟩]
def m50 : MFunc := ⟨8, [.tmp 2],
  (.seq (.region m50r0 [0])
  (.seq (.seq (.region m50r1 [0, 4])
  (.cond (.tmp 4)
  (.seq (.region m50r2 [2])
  .ret)
  .skip))
  (.seq (.region m50r3 [2])
  .ret)))⟩
def h50 : List RH := [⟨[0], 0, false, []⟩, ⟨[0, 4], 0, false, []⟩, ⟨[2], 0, false, []⟩, ⟨[2], 0, false, []⟩]
theorem m50_ok : cmpFn Try.prog 50 h50 = some m50 := by kernel_rfl

/- dialtone/registrar.copied -/
def m51r0 : List MOper := [⟨.box 10 (.tmp 0), none, (some 1), [0]⟩,
  ⟨.zbox [(.str []), (.str []), (.int .i64 0), (.int .i64 0), (.int .i64 0), (.str []), (.int .i64 0), (.str []), (.int .i64 0), .nils], none, (some 2), []⟩]
def m51r1 : List MOper := [⟨.faddr 9 (.tmp 1), none, (some 3), [1]⟩,
  ⟨.load none (.tmp 3), none, (some 4), [3]⟩,
  ⟨.call 64 [(.tmp 4)], none, (some 5), [4]⟩,
  ⟨.faddr 9 (.tmp 1), none, (some 6), [1]⟩,
  ⟨.store 1 (.tmp 6) (.tmp 5), none, none, [6, 5]⟩]
def m51r2 : List MOper := [⟨.load (some 10) (.tmp 1), none, (some 7), [1]⟩,
  ⟨.store 10 (.tmp 2) (.tmp 7), none, none, [2, 7]⟩]
def m51 : MFunc := ⟨8, [.cell 2 (some 10)],
  (.seq (.region m51r0 [1, 2])
  (.seq (.region m51r1 [1, 2])
  (.seq (.region m51r2 [2])
  .ret)))⟩
def h51 : List RH := [⟨[1, 2], 0, false, []⟩, ⟨[1, 2], 0, false, []⟩, ⟨[2], 0, false, []⟩]
theorem m51_ok : cmpFn Try.prog 51 h51 = some m51 := by kernel_rfl

/- dialtone/journal.Valid -/
def m53r0 : List MOper := [⟨.box 3 (.tmp 0), none, (some 1), [0]⟩,
  ⟨.mv (.lit (.bool false)), none, (some 2), []⟩]
def m53r1 : List MOper := [⟨.faddr 1 (.tmp 1), none, (some 3), [1]⟩,
  ⟨.load none (.tmp 3), none, (some 4), [3]⟩,
  ⟨.bin .geq .other (.tmp 4) (.lit (.int .i64 0)), none, (some 5), [4]⟩,
  ⟨.mv (.tmp 5), none, (some 6), [5]⟩,
  ⟨.faddr 1 (.tmp 1), (some (6, true)), (some 7), [1]⟩,
  ⟨.load none (.tmp 7), (some (6, true)), (some 8), [7]⟩,
  ⟨.faddr 0 (.tmp 1), (some (6, true)), (some 9), [1]⟩,
  ⟨.load none (.tmp 9), (some (6, true)), (some 10), [9]⟩,
  ⟨.len 1 (.tmp 10), (some (6, true)), (some 11), [10]⟩,
  ⟨.bin .leq .other (.tmp 8) (.tmp 11), (some (6, true)), (some 12), [8, 11]⟩,
  ⟨.pick (.tmp 6) (.tmp 12) (.lit (.bool false)), none, (some 13), [6, 12]⟩,
  ⟨.mv (.tmp 13), none, (some 14), [13]⟩,
  ⟨.faddr 2 (.tmp 1), (some (14, true)), (some 15), [1]⟩,
  ⟨.load none (.tmp 15), (some (14, true)), (some 16), [15]⟩,
  ⟨.bin .geq .other (.tmp 16) (.lit (.int .i64 0)), (some (14, true)), (some 17), [16]⟩,
  ⟨.pick (.tmp 14) (.tmp 17) (.lit (.bool false)), none, (some 18), [14, 17]⟩,
  ⟨.mv (.tmp 18), none, (some 19), [18]⟩,
  ⟨.faddr 2 (.tmp 1), (some (19, true)), (some 20), [1]⟩,
  ⟨.load none (.tmp 20), (some (19, true)), (some 21), [20]⟩,
  ⟨.bin .leq .other (.tmp 21) (.lit (.int .i64 1048576)), (some (19, true)), (some 22), [21]⟩,
  ⟨.pick (.tmp 19) (.tmp 22) (.lit (.bool false)), none, (some 23), [19, 22]⟩,
  ⟨.mv (.tmp 23), none, (some 2), [23]⟩]
def m53 : MFunc := ⟨24, [.tmp 2],
  (.seq (.region m53r0 [1])
  (.seq (.region m53r1 [2])
  .ret))⟩
def h53 : List RH := [⟨[1], 0, false, []⟩, ⟨[2], 0, false, []⟩]
theorem m53_ok : cmpFn Try.prog 53 h53 = some m53 := by kernel_rfl

/- slices.IndexFunc[[]string,string] -/
def m54r0 : List MOper := [⟨.mv (.lit (.int .i64 0)), none, (some 4), []⟩]
def m54r1 : List MOper := [⟨.mv (.tmp 0), none, (some 6), [0]⟩,
  ⟨.len 1 (.tmp 6), none, (some 7), [6]⟩,
  ⟨.mv (.lit (.int .i64 0)), none, (some 8), []⟩]
def m54r2 : List MOper := [⟨.bin .lss .other (.tmp 8) (.tmp 7), none, (some 9), [8, 7]⟩]
def m54r3 : List MOper := [⟨.mv (.tmp 8), none, (some 10), [8]⟩,
  ⟨.mv (.tmp 10), none, (some 5), [10]⟩]
def m54r4 : List MOper := [⟨.mv (.tmp 1), none, (some 11), [1]⟩,
  ⟨.mv (.tmp 0), none, (some 12), [0]⟩,
  ⟨.mv (.tmp 5), none, (some 13), [5]⟩,
  ⟨.iaddr 1 (.tmp 12) (.tmp 13), none, (some 14), [12, 13]⟩,
  ⟨.load none (.tmp 14), none, (some 15), [14]⟩,
  ⟨.callv (.tmp 11) [(.tmp 15)], none, (some 16), [11, 15]⟩]
def m54r5 : List MOper := [⟨.mv (.tmp 5), none, (some 17), [5]⟩,
  ⟨.mv (.tmp 17), none, (some 4), [17]⟩]
def m54r6 : List MOper := [⟨.bin .add .other (.tmp 8) (.lit (.int .i64 1)), none, (some 18), [8]⟩,
  ⟨.mv (.tmp 18), none, (some 8), [18]⟩]
def m54l7 : MCode := (.seq (.region m54r2 [0, 1, 7, 8, 9])
  (.seq (.cond (.tmp 9)
  .skip
  (.exit 0))
  (.seq (.block 1 (.seq (.region m54r3 [0, 1, 5, 7, 8])
  (.seq (.region m54r4 [0, 1, 5, 7, 8, 16])
  (.cond (.tmp 16)
  (.seq (.region m54r5 [4])
  .ret)
  .skip))))
  (.region m54r6 [0, 1, 7, 8]))))
def m54r8 : List MOper := [⟨.mv (.lit (.int .i64 (-1))), none, (some 4), []⟩]
def m54 : MFunc := ⟨19, [.tmp 4],
  (.seq (.region m54r0 [0, 1])
  (.seq (.seq (.region m54r1 [0, 1, 7, 8])
  (.block 0 (.loop [0, 1, 7, 8] m54l7)))
  (.seq (.region m54r8 [4])
  .ret)))⟩
def h54 : List RH := [⟨[0, 1], 0, false, []⟩, ⟨[0, 1, 7, 8], 0, false, []⟩, ⟨[0, 1, 7, 8], 0, false, []⟩, ⟨[0, 1, 7, 8, 9], 0, false, []⟩, ⟨[0, 1, 5, 7, 8], 0, false, []⟩, ⟨[0, 1, 5, 7, 8, 16], 0, false, []⟩, ⟨[4], 0, false, []⟩, ⟨[0, 1, 7, 8], 0, false, []⟩, ⟨[4], 0, false, []⟩]
theorem m54_ok : cmpFn Try.prog 54 h54 = some m54 := by kernel_rfl

/- dialtone/registrar.touches -/
def m55r0 : List MOper := [⟨.box 9 (.tmp 0), none, (some 2), [0]⟩,
  ⟨.box 10 (.tmp 1), none, (some 3), [1]⟩,
  ⟨.mv (.lit (.bool false)), none, (some 4), []⟩]
def m55r1 : List MOper := [⟨.faddr 3 (.tmp 2), none, (some 5), [2]⟩,
  ⟨.load none (.tmp 5), none, (some 6), [5]⟩,
  ⟨.mv (.tmp 6), none, (some 7), [6]⟩,
  ⟨.faddr 4 (.tmp 2), (some (7, false)), (some 8), [2]⟩,
  ⟨.load none (.tmp 8), (some (7, false)), (some 9), [8]⟩,
  ⟨.mkfn 66 [] [(.tmp 3), (.tmp 2)], (some (7, false)), (some 10), [3, 2]⟩,
  ⟨.call 65 [(.tmp 9), (.tmp 10)], (some (7, false)), (some 11), [9, 10]⟩,
  ⟨.pick (.tmp 7) (.lit (.bool true)) (.tmp 11), none, (some 12), [7, 11]⟩,
  ⟨.mv (.tmp 12), none, (some 4), [12]⟩]
def m55 : MFunc := ⟨13, [.tmp 4],
  (.seq (.region m55r0 [2, 3])
  (.seq (.region m55r1 [4])
  .ret))⟩
def h55 : List RH := [⟨[2, 3], 0, false, []⟩, ⟨[4], 0, false, []⟩]
theorem m55_ok : cmpFn Try.prog 55 h55 = some m55 := by kernel_rfl

/- dialtone/registrar.expiry -/
def m56r0 : List MOper := [⟨.box 4 (.tmp 0), none, (some 3), [0]⟩,
  ⟨.box 9 (.tmp 1), none, (some 4), [1]⟩,
  ⟨.box 3 (.tmp 2), none, (some 5), [2]⟩,
  ⟨.mv (.lit (.int .i64 0)), none, (some 6), []⟩]
def m56r1 : List MOper := [⟨.faddr 2 (.tmp 5), none, (some 8), [5]⟩,
  ⟨.load none (.tmp 8), none, (some 9), [8]⟩,
  ⟨.bin .geq .other (.tmp 9) (.lit (.int .i64 0)), none, (some 10), [9]⟩,
  ⟨.mv (.tmp 10), none, (some 7), [10]⟩]
def m56r2 : List MOper := [⟨.faddr 2 (.tmp 5), none, (some 11), [5]⟩,
  ⟨.load none (.tmp 11), none, (some 12), [11]⟩,
  ⟨.faddr 2 (.tmp 3), none, (some 13), [3]⟩,
  ⟨.load none (.tmp 13), none, (some 14), [13]⟩,
  ⟨.minmax false (.tmp 12) [(.tmp 14)], none, (some 15), [12, 14]⟩,
  ⟨.mv (.tmp 15), none, (some 6), [15]⟩]
def m56r3 : List MOper := [⟨.faddr 5 (.tmp 4), none, (some 17), [4]⟩,
  ⟨.load none (.tmp 17), none, (some 18), [17]⟩,
  ⟨.bin .geq .other (.tmp 18) (.lit (.int .i64 0)), none, (some 19), [18]⟩,
  ⟨.mv (.tmp 19), none, (some 16), [19]⟩]
def m56r4 : List MOper := [⟨.faddr 5 (.tmp 4), none, (some 20), [4]⟩,
  ⟨.load none (.tmp 20), none, (some 21), [20]⟩,
  ⟨.faddr 2 (.tmp 3), none, (some 22), [3]⟩,
  ⟨.load none (.tmp 22), none, (some 23), [22]⟩,
  ⟨.minmax false (.tmp 21) [(.tmp 23)], none, (some 24), [21, 23]⟩,
  ⟨.mv (.tmp 24), none, (some 6), [24]⟩]
def m56r5 : List MOper := [⟨.faddr 1 (.tmp 3), none, (some 25), [3]⟩,
  ⟨.load none (.tmp 25), none, (some 26), [25]⟩,
  ⟨.mv (.tmp 26), none, (some 6), [26]⟩]
def m56 : MFunc := ⟨27, [.tmp 6],
  (.seq (.region m56r0 [3, 4, 5])
  (.seq (.block 0 (.seq (.region m56r1 [3, 4, 5, 7])
  (.cond (.tmp 7)
  (.seq (.region m56r2 [6])
  .ret)
  (.seq (.region m56r3 [3, 4, 16])
  (.cond (.tmp 16)
  (.seq (.region m56r4 [6])
  .ret)
  .skip)))))
  (.seq (.region m56r5 [6])
  .ret)))⟩
def h56 : List RH := [⟨[3, 4, 5], 0, false, []⟩, ⟨[3, 4, 5, 7], 0, false, []⟩, ⟨[6], 0, false, []⟩, ⟨[3, 4, 16], 0, false, []⟩, ⟨[6], 0, false, []⟩, ⟨[6], 0, false, []⟩]
theorem m56_ok : cmpFn Try.prog 56 h56 = some m56 := by kernel_rfl

/- dialtone/journal.Encode -/
def m57r0 : List MOper := [⟨.box 2 (.tmp 1), none, (some 3), [1]⟩,
  ⟨.mv (.lit .nils), none, (some 4), []⟩,
  ⟨.mv (.lit (.int .u8 0)), none, (some 5), []⟩]
def m57r1 : List MOper := [⟨.mv (.tmp 0), none, (some 8), [0]⟩,
  ⟨.bin .lss .other (.tmp 8) (.lit (.int .i64 0)), none, (some 9), [8]⟩,
  ⟨.mv (.tmp 9), none, (some 10), [9]⟩,
  ⟨.mv (.tmp 0), (some (10, false)), (some 11), [0]⟩,
  ⟨.bin .geq .other (.tmp 11) (.lit (.int .i64 1048576)), (some (10, false)), (some 12), [11]⟩,
  ⟨.pick (.tmp 10) (.lit (.bool true)) (.tmp 12), none, (some 13), [10, 12]⟩]
def m57r2 : List MOper := [⟨.mv (.lit .nils), none, (some 4), []⟩,
  ⟨.mv (.lit (.int .u8 3)), none, (some 5), []⟩]
def m57r3 : List MOper := [⟨.faddr 1 (.tmp 3), none, (some 14), [3]⟩,
  ⟨.load none (.tmp 14), none, (some 15), [14]⟩,
  ⟨.len 1 (.tmp 15), none, (some 16), [15]⟩,
  ⟨.bin .gtr .other (.tmp 16) (.lit (.int .i64 4096)), none, (some 17), [16]⟩]
def m57r4 : List MOper := [⟨.mv (.lit .nils), none, (some 4), []⟩,
  ⟨.mv (.lit (.int .u8 4)), none, (some 5), []⟩]
def m57r5 : List MOper := [⟨.faddr 1 (.tmp 3), none, (some 18), [3]⟩,
  ⟨.load none (.tmp 18), none, (some 19), [18]⟩,
  ⟨.len 1 (.tmp 19), none, (some 20), [19]⟩,
  ⟨.conv .u32 (.tmp 20), none, (some 21), [20]⟩,
  ⟨.mv (.tmp 21), none, (some 6), [21]⟩]
def m57r6 : List MOper := [⟨.faddr 1 (.tmp 3), none, (some 22), [3]⟩,
  ⟨.load none (.tmp 22), none, (some 23), [22]⟩,
  ⟨.len 1 (.tmp 23), none, (some 24), [23]⟩,
  ⟨.bin .add .other (.lit (.int .i64 10)) (.tmp 24), none, (some 25), [24]⟩,
  ⟨.bin .add .other (.tmp 25) (.lit (.int .i64 4)), none, (some 26), [25]⟩,
  ⟨.make [(.int .u8 0)] 1 (.lit (.int .i64 0)) (.tmp 26), none, (some 27), [26]⟩,
  ⟨.mv (.tmp 27), none, (some 7), [27]⟩]
def m57r7 : List MOper := [⟨.mv (.tmp 7), none, (some 28), [7]⟩,
  ⟨.faddr 0 (.tmp 3), none, (some 29), [3]⟩,
  ⟨.load none (.tmp 29), none, (some 30), [29]⟩,
  ⟨.mkfrz [(.int .u8 0)] 2 [(0, (.lit (.int .u8 167))), (1, (.tmp 30))], none, (some 31), [30]⟩,
  ⟨.append 1 1 (.tmp 28) (.tmp 31), none, (some 32), [28, 31]⟩,
  ⟨.mv (.tmp 32), none, (some 7), [32]⟩]
def m57r8 : List MOper := [⟨.mv (.tmp 7), none, (some 33), [7]⟩,
  ⟨.mv (.tmp 0), none, (some 34), [0]⟩,
  ⟨.conv .u32 (.tmp 34), none, (some 35), [34]⟩,
  ⟨.mkfrz [(.int .u32 0)] 1 [(0, (.tmp 35))], none, (some 36), [35]⟩,
  ⟨.call 67 [(.tmp 33), (.lit (.int .i64 4)), (.tmp 36)], none, (some 37), [33, 36]⟩,
  ⟨.mv (.tmp 37), none, (some 7), [37]⟩]
def m57r9 : List MOper := [⟨.mv (.tmp 7), none, (some 38), [7]⟩,
  ⟨.mv (.tmp 6), none, (some 39), [6]⟩,
  ⟨.mv (.tmp 6), none, (some 40), [6]⟩,
  ⟨.bin .sub .other (.lit (.int .u32 65535)) (.tmp 40), none, (some 41), [40]⟩,
  ⟨.mkfrz [(.int .u32 0)] 2 [(0, (.tmp 39)), (1, (.tmp 41))], none, (some 42), [39, 41]⟩,
  ⟨.call 67 [(.tmp 38), (.lit (.int .i64 2)), (.tmp 42)], none, (some 43), [38, 42]⟩,
  ⟨.mv (.tmp 43), none, (some 7), [43]⟩]
def m57r10 : List MOper := [⟨.mv (.tmp 7), none, (some 44), [7]⟩,
  ⟨.faddr 1 (.tmp 3), none, (some 45), [3]⟩,
  ⟨.load none (.tmp 45), none, (some 46), [45]⟩,
  ⟨.append 1 1 (.tmp 44) (.tmp 46), none, (some 47), [44, 46]⟩,
  ⟨.mv (.tmp 47), none, (some 7), [47]⟩]
def m57r11 : List MOper := [⟨.mv (.tmp 7), none, (some 48), [7]⟩,
  ⟨.mv (.tmp 7), none, (some 49), [7]⟩,
  ⟨.call 68 [(.tmp 49)], none, (some 50), [49]⟩,
  ⟨.mkfrz [(.int .u32 0)] 1 [(0, (.tmp 50))], none, (some 51), [50]⟩,
  ⟨.call 67 [(.tmp 48), (.lit (.int .i64 4)), (.tmp 51)], none, (some 52), [48, 51]⟩,
  ⟨.mv (.tmp 52), none, (some 4), [52]⟩,
  ⟨.mv (.lit (.int .u8 0)), none, (some 5), []⟩]
def m57 : MFunc := ⟨53, [.tmp 4, .tmp 5],
  (.seq (.region m57r0 [0, 3])
  (.seq (.seq (.region m57r1 [0, 3, 13])
  (.cond (.tmp 13)
  (.seq (.region m57r2 [4, 5])
  .ret)
  .skip))
  (.seq (.seq (.region m57r3 [0, 3, 17])
  (.cond (.tmp 17)
  (.seq (.region m57r4 [4, 5])
  .ret)
  .skip))
  (.seq (.region m57r5 [0, 3, 6])
  (.seq (.region m57r6 [0, 3, 6, 7])
  (.seq (.region m57r7 [0, 3, 6, 7])
  (.seq (.region m57r8 [3, 6, 7])
  (.seq (.region m57r9 [3, 7])
  (.seq (.region m57r10 [7])
  (.seq (.region m57r11 [4, 5])
  .ret))))))))))⟩
def h57 : List RH := [⟨[0, 3], 0, false, []⟩, ⟨[0, 3, 13], 0, false, []⟩, ⟨[4, 5], 0, false, []⟩, ⟨[0, 3, 17], 0, false, []⟩, ⟨[4, 5], 0, false, []⟩, ⟨[0, 3, 6], 0, false, []⟩, ⟨[0, 3, 6, 7], 0, false, []⟩, ⟨[0, 3, 6, 7], 0, false, []⟩, ⟨[3, 6, 7], 0, false, []⟩, ⟨[3, 7], 0, false, []⟩, ⟨[7], 0, false, []⟩, ⟨[4, 5], 0, false, []⟩]
theorem m57_ok : cmpFn Try.prog 57 h57 = some m57 := by kernel_rfl

/- slices.SortStableFunc[[]dialtone/api.Binding,dialtone/api.Binding] -/
def m58r0 : List MOper := [⟨.mv (.tmp 0), none, (some 4), [0]⟩,
  ⟨.mv (.tmp 0), none, (some 5), [0]⟩,
  ⟨.len 1 (.tmp 5), none, (some 6), [5]⟩,
  ⟨.mv (.tmp 1), none, (some 7), [1]⟩,
  ⟨.call 69 [(.tmp 4), (.tmp 6), (.tmp 7)], none, (some 8), [4, 6, 7]⟩]
def m58 : MFunc := ⟨9, [],
  (.region m58r0 [])⟩
def h58 : List RH := [⟨[], 0, false, []⟩]
theorem m58_ok : cmpFn Try.prog 58 h58 = some m58 := by kernel_rfl

/- dialtone/registrar.Lookup$1 -/
def m59r0 : List MOper := [⟨.box 10 (.tmp 0), none, (some 2), [0]⟩,
  ⟨.box 10 (.tmp 1), none, (some 3), [1]⟩,
  ⟨.mv (.lit (.int .i64 0)), none, (some 4), []⟩]
def m59r1 : List MOper := [⟨.faddr 2 (.tmp 3), none, (some 5), [3]⟩,
  ⟨.load none (.tmp 5), none, (some 6), [5]⟩,
  ⟨.faddr 2 (.tmp 2), none, (some 7), [2]⟩,
  ⟨.load none (.tmp 7), none, (some 8), [7]⟩,
  ⟨.faddr 4 (.tmp 3), none, (some 10), [3]⟩,
  ⟨.load none (.tmp 10), none, (some 11), [10]⟩,
  ⟨.faddr 4 (.tmp 2), none, (some 12), [2]⟩,
  ⟨.load none (.tmp 12), none, (some 13), [12]⟩,
  ⟨.faddr 1 (.tmp 2), none, (some 15), [2]⟩,
  ⟨.load none (.tmp 15), none, (some 16), [15]⟩,
  ⟨.faddr 1 (.tmp 3), none, (some 17), [3]⟩,
  ⟨.load none (.tmp 17), none, (some 18), [17]⟩]
def m59r2 : List MOper := [⟨.call 61 [(.tmp 6), (.tmp 8)], none, (some 9), [6, 8]⟩,
  ⟨.call 61 [(.tmp 11), (.tmp 13)], none, (some 14), [11, 13]⟩,
  ⟨.call 62 [(.tmp 16), (.tmp 18)], none, (some 19), [16, 18]⟩,
  ⟨.mkfrz [(.int .i64 0)] 3 [(0, (.tmp 9)), (1, (.tmp 14)), (2, (.tmp 19))], none, (some 20), [9, 14, 19]⟩,
  ⟨.call 60 [(.tmp 20)], none, (some 21), [20]⟩,
  ⟨.mv (.tmp 21), none, (some 4), [21]⟩]
def m59r3 : List MOper := [⟨.load none (.tmp 10), none, (some 11), [10]⟩,
  ⟨.load none (.tmp 12), none, (some 13), [12]⟩,
  ⟨.load none (.tmp 15), none, (some 16), [15]⟩,
  ⟨.load none (.tmp 17), none, (some 18), [17]⟩]
def m59r4 : List MOper := [⟨.load none (.tmp 10), none, (some 11), [10]⟩,
  ⟨.load none (.tmp 12), none, (some 13), [12]⟩,
  ⟨.load none (.tmp 15), none, (some 16), [15]⟩,
  ⟨.load none (.tmp 17), none, (some 18), [17]⟩]
def m59r5 : List MOper := [⟨.load none (.tmp 15), none, (some 16), [15]⟩,
  ⟨.load none (.tmp 17), none, (some 18), [17]⟩]
def m59 : MFunc := ⟨22, [.tmp 4],
  (.seq (.region m59r0 [2, 3])
  (.seq (.dregion m59r1 m59r2 [m59r3, m59r4, m59r5, [], [], [], []] [4])
  .ret))⟩
def h59 : List RH := [⟨[2, 3], 0, false, []⟩, ⟨[4], 12, false, [0, 1, 2, 3, 5, 6, 7, 8, 10, 11, 12, 13, 4, 9, 14, 15, 16, 17]⟩]
theorem m59_ok : cmpFn Try.prog 59 h59 = some m59 := by kernel_rfl

/- cmp.Or[int] -/
def m60r0 : List MOper := [⟨.mv (.lit (.int .i64 0)), none, (some 2), []⟩]
def m60r1 : List MOper := [⟨.mv (.lit (.int .i64 0)), none, (some 3), []⟩]
def m60r2 : List MOper := [⟨.mv (.tmp 0), none, (some 6), [0]⟩,
  ⟨.len 1 (.tmp 6), none, (some 7), [6]⟩,
  ⟨.mv (.lit (.int .i64 0)), none, (some 8), []⟩]
def m60r3 : List MOper := [⟨.bin .lss .other (.tmp 8) (.tmp 7), none, (some 9), [8, 7]⟩]
def m60r4 : List MOper := [⟨.iaddr 1 (.tmp 6) (.tmp 8), none, (some 10), [6, 8]⟩,
  ⟨.load none (.tmp 10), none, (some 11), [10]⟩,
  ⟨.mv (.tmp 11), none, (some 5), [11]⟩]
def m60r5 : List MOper := [⟨.mv (.tmp 5), none, (some 12), [5]⟩,
  ⟨.mv (.tmp 3), none, (some 13), [3]⟩,
  ⟨.bin .neq .other (.tmp 12) (.tmp 13), none, (some 14), [12, 13]⟩]
def m60r6 : List MOper := [⟨.mv (.tmp 5), none, (some 15), [5]⟩,
  ⟨.mv (.tmp 15), none, (some 2), [15]⟩]
def m60r7 : List MOper := [⟨.bin .add .other (.tmp 8) (.lit (.int .i64 1)), none, (some 16), [8]⟩,
  ⟨.mv (.tmp 16), none, (some 8), [16]⟩]
def m60l8 : MCode := (.seq (.region m60r3 [3, 6, 7, 8, 9])
  (.seq (.cond (.tmp 9)
  .skip
  (.exit 0))
  (.seq (.block 1 (.seq (.region m60r4 [3, 5, 6, 7, 8])
  (.seq (.region m60r5 [3, 5, 6, 7, 8, 14])
  (.cond (.tmp 14)
  (.seq (.region m60r6 [2])
  .ret)
  .skip))))
  (.region m60r7 [3, 6, 7, 8]))))
def m60r9 : List MOper := [⟨.mv (.tmp 3), none, (some 17), [3]⟩,
  ⟨.mv (.tmp 17), none, (some 2), [17]⟩]
def m60 : MFunc := ⟨18, [.tmp 2],
  (.seq (.region m60r0 [0])
  (.seq (.region m60r1 [0, 3])
  (.seq (.seq (.region m60r2 [3, 6, 7, 8])
  (.block 0 (.loop [3, 6, 7, 8] m60l8)))
  (.seq (.region m60r9 [2])
  .ret))))⟩
def h60 : List RH := [⟨[0], 0, false, []⟩, ⟨[0, 3], 0, false, []⟩, ⟨[3, 6, 7, 8], 0, false, []⟩, ⟨[3, 6, 7, 8], 0, false, []⟩, ⟨[3, 6, 7, 8, 9], 0, false, []⟩, ⟨[3, 5, 6, 7, 8], 0, false, []⟩, ⟨[3, 5, 6, 7, 8, 14], 0, false, []⟩, ⟨[2], 0, false, []⟩, ⟨[3, 6, 7, 8], 0, false, []⟩, ⟨[2], 0, false, []⟩]
theorem m60_ok : cmpFn Try.prog 60 h60 = some m60 := by kernel_rfl

/- cmp.Compare[int] -/
def m61r0 : List MOper := [⟨.mv (.lit (.int .i64 0)), none, (some 4), []⟩]
def m61r1 : List MOper := [⟨.mv (.tmp 0), none, (some 7), [0]⟩,
  ⟨.call 70 [(.tmp 7)], none, (some 8), [7]⟩,
  ⟨.mv (.tmp 8), none, (some 5), [8]⟩]
def m61r2 : List MOper := [⟨.mv (.tmp 1), none, (some 9), [1]⟩,
  ⟨.call 70 [(.tmp 9)], none, (some 10), [9]⟩,
  ⟨.mv (.tmp 10), none, (some 6), [10]⟩]
def m61r3 : List MOper := [⟨.mv (.tmp 5), none, (some 11), [5]⟩]
def m61r4 : List MOper := [⟨.mv (.tmp 6), none, (some 12), [6]⟩]
def m61r5 : List MOper := [⟨.mv (.lit (.int .i64 0)), none, (some 4), []⟩]
def m61r6 : List MOper := [⟨.mv (.lit (.int .i64 (-1))), none, (some 4), []⟩]
def m61r7 : List MOper := [⟨.mv (.tmp 6), none, (some 13), [6]⟩]
def m61r8 : List MOper := [⟨.mv (.lit (.int .i64 1)), none, (some 4), []⟩]
def m61r9 : List MOper := [⟨.mv (.tmp 0), none, (some 14), [0]⟩,
  ⟨.mv (.tmp 1), none, (some 15), [1]⟩,
  ⟨.bin .lss .other (.tmp 14) (.tmp 15), none, (some 16), [14, 15]⟩]
def m61r10 : List MOper := [⟨.mv (.lit (.int .i64 (-1))), none, (some 4), []⟩]
def m61r11 : List MOper := [⟨.mv (.tmp 0), none, (some 17), [0]⟩,
  ⟨.mv (.tmp 1), none, (some 18), [1]⟩,
  ⟨.bin .gtr .other (.tmp 17) (.tmp 18), none, (some 19), [17, 18]⟩]
def m61r12 : List MOper := [⟨.mv (.lit (.int .i64 1)), none, (some 4), []⟩]
def m61r13 : List MOper := [⟨.mv (.lit (.int .i64 0)), none, (some 4), []⟩]
def m61 : MFunc := ⟨20, [.tmp 4],
  (.seq (.region m61r0 [0, 1])
  (.seq (.region m61r1 [0, 1, 5])
  (.seq (.region m61r2 [0, 1, 5, 6])
  (.seq (.seq (.region m61r3 [0, 1, 6, 11])
  (.cond (.tmp 11)
  (.seq (.seq (.region m61r4 [12])
  (.cond (.tmp 12)
  (.seq (.region m61r5 [4])
  .ret)
  .skip))
  (.seq (.region m61r6 [4])
  .ret))
  .skip))
  (.seq (.seq (.region m61r7 [0, 1, 13])
  (.cond (.tmp 13)
  (.seq (.region m61r8 [4])
  .ret)
  .skip))
  (.seq (.seq (.region m61r9 [0, 1, 16])
  (.cond (.tmp 16)
  (.seq (.region m61r10 [4])
  .ret)
  .skip))
  (.seq (.seq (.region m61r11 [19])
  (.cond (.tmp 19)
  (.seq (.region m61r12 [4])
  .ret)
  .skip))
  (.seq (.region m61r13 [4])
  .ret))))))))⟩
def h61 : List RH := [⟨[0, 1], 0, false, []⟩, ⟨[0, 1, 5], 0, false, []⟩, ⟨[0, 1, 5, 6], 0, false, []⟩, ⟨[0, 1, 6, 11], 0, false, []⟩, ⟨[12], 0, false, []⟩, ⟨[4], 0, false, []⟩, ⟨[4], 0, false, []⟩, ⟨[0, 1, 13], 0, false, []⟩, ⟨[4], 0, false, []⟩, ⟨[0, 1, 16], 0, false, []⟩, ⟨[4], 0, false, []⟩, ⟨[19], 0, false, []⟩, ⟨[4], 0, false, []⟩, ⟨[4], 0, false, []⟩]
theorem m61_ok : cmpFn Try.prog 61 h61 = some m61 := by kernel_rfl

/- cmp.Compare[string] -/
def m62r0 : List MOper := [⟨.mv (.lit (.int .i64 0)), none, (some 4), []⟩]
def m62r1 : List MOper := [⟨.mv (.tmp 0), none, (some 7), [0]⟩,
  ⟨.call 71 [(.tmp 7)], none, (some 8), [7]⟩,
  ⟨.mv (.tmp 8), none, (some 5), [8]⟩]
def m62r2 : List MOper := [⟨.mv (.tmp 1), none, (some 9), [1]⟩,
  ⟨.call 71 [(.tmp 9)], none, (some 10), [9]⟩,
  ⟨.mv (.tmp 10), none, (some 6), [10]⟩]
def m62r3 : List MOper := [⟨.mv (.tmp 5), none, (some 11), [5]⟩]
def m62r4 : List MOper := [⟨.mv (.tmp 6), none, (some 12), [6]⟩]
def m62r5 : List MOper := [⟨.mv (.lit (.int .i64 0)), none, (some 4), []⟩]
def m62r6 : List MOper := [⟨.mv (.lit (.int .i64 (-1))), none, (some 4), []⟩]
def m62r7 : List MOper := [⟨.mv (.tmp 6), none, (some 13), [6]⟩]
def m62r8 : List MOper := [⟨.mv (.lit (.int .i64 1)), none, (some 4), []⟩]
def m62r9 : List MOper := [⟨.mv (.tmp 0), none, (some 14), [0]⟩,
  ⟨.mv (.tmp 1), none, (some 15), [1]⟩,
  ⟨.bin .lss .other (.tmp 14) (.tmp 15), none, (some 16), [14, 15]⟩]
def m62r10 : List MOper := [⟨.mv (.lit (.int .i64 (-1))), none, (some 4), []⟩]
def m62r11 : List MOper := [⟨.mv (.tmp 0), none, (some 17), [0]⟩,
  ⟨.mv (.tmp 1), none, (some 18), [1]⟩,
  ⟨.bin .gtr .other (.tmp 17) (.tmp 18), none, (some 19), [17, 18]⟩]
def m62r12 : List MOper := [⟨.mv (.lit (.int .i64 1)), none, (some 4), []⟩]
def m62r13 : List MOper := [⟨.mv (.lit (.int .i64 0)), none, (some 4), []⟩]
def m62 : MFunc := ⟨20, [.tmp 4],
  (.seq (.region m62r0 [0, 1])
  (.seq (.region m62r1 [0, 1, 5])
  (.seq (.region m62r2 [0, 1, 5, 6])
  (.seq (.seq (.region m62r3 [0, 1, 6, 11])
  (.cond (.tmp 11)
  (.seq (.seq (.region m62r4 [12])
  (.cond (.tmp 12)
  (.seq (.region m62r5 [4])
  .ret)
  .skip))
  (.seq (.region m62r6 [4])
  .ret))
  .skip))
  (.seq (.seq (.region m62r7 [0, 1, 13])
  (.cond (.tmp 13)
  (.seq (.region m62r8 [4])
  .ret)
  .skip))
  (.seq (.seq (.region m62r9 [0, 1, 16])
  (.cond (.tmp 16)
  (.seq (.region m62r10 [4])
  .ret)
  .skip))
  (.seq (.seq (.region m62r11 [19])
  (.cond (.tmp 19)
  (.seq (.region m62r12 [4])
  .ret)
  .skip))
  (.seq (.region m62r13 [4])
  .ret))))))))⟩
def h62 : List RH := [⟨[0, 1], 0, false, []⟩, ⟨[0, 1, 5], 0, false, []⟩, ⟨[0, 1, 5, 6], 0, false, []⟩, ⟨[0, 1, 6, 11], 0, false, []⟩, ⟨[12], 0, false, []⟩, ⟨[4], 0, false, []⟩, ⟨[4], 0, false, []⟩, ⟨[0, 1, 13], 0, false, []⟩, ⟨[4], 0, false, []⟩, ⟨[0, 1, 16], 0, false, []⟩, ⟨[4], 0, false, []⟩, ⟨[19], 0, false, []⟩, ⟨[4], 0, false, []⟩, ⟨[4], 0, false, []⟩]
theorem m62_ok : cmpFn Try.prog 62 h62 = some m62 := by kernel_rfl

/- dialtone/journal.Scan -/
def m63r0 : List MOper := [⟨.mv (.lit .nils), none, (some 2), []⟩,
  ⟨.mv (.lit (.int .i64 0)), none, (some 3), []⟩,
  ⟨.mv (.lit (.int .u8 0)), none, (some 4), []⟩]
def m63r1 : List MOper := [⟨.mv (.tmp 0), none, (some 9), [0]⟩,
  ⟨.build [.nils, (.int .i64 0)] [(0, 1, (.tmp 9))], none, (some 10), [9]⟩,
  ⟨.box 2 (.tmp 10), none, (some 11), [10]⟩,
  ⟨.mv (.tmp 11), none, (some 5), [11]⟩]
def m63r2 : List MOper := [⟨.mv (.lit .nils), none, (some 6), []⟩]
def m63r3 : List MOper := [⟨.mv (.tmp 5), none, (some 12), [5]⟩,
  ⟨.nilchk (.tmp 12), none, (some 13), [12]⟩,
  ⟨.faddr 0 (.tmp 13), none, (some 14), [13]⟩,
  ⟨.load none (.tmp 14), none, (some 15), [14]⟩,
  ⟨.len 1 (.tmp 15), none, (some 16), [15]⟩,
  ⟨.bin .gtr .other (.tmp 16) (.lit (.int .i64 0)), none, (some 17), [16]⟩]
def m63r4 : List MOper := [⟨.mv (.tmp 5), none, (some 19), [5]⟩,
  ⟨.call 72 [(.tmp 19)], none, (some 20), [19]⟩,
  ⟨.mv (.tmp 20), none, (some 18), [20]⟩,
  ⟨.ext 0 (.tmp 18), none, (some 21), [18]⟩,
  ⟨.ext 1 (.tmp 18), none, (some 22), [18]⟩,
  ⟨.zbox [(.int .u8 0), .nils], none, (some 7), []⟩,
  ⟨.store 2 (.tmp 7) (.tmp 21), none, none, [7, 21]⟩,
  ⟨.mv (.tmp 22), none, (some 8), [22]⟩]
def m63r5 : List MOper := [⟨.mv (.tmp 8), none, (some 23), [8]⟩,
  ⟨.bin .neq .other (.tmp 23) (.lit (.int .u8 0)), none, (some 24), [23]⟩]
def m63r6 : List MOper := [⟨.mv (.tmp 6), none, (some 25), [6]⟩,
  ⟨.mv (.tmp 0), none, (some 26), [0]⟩,
  ⟨.len 1 (.tmp 26), none, (some 27), [26]⟩,
  ⟨.mv (.tmp 5), none, (some 28), [5]⟩,
  ⟨.nilchk (.tmp 28), none, (some 29), [28]⟩,
  ⟨.faddr 0 (.tmp 29), none, (some 30), [29]⟩,
  ⟨.load none (.tmp 30), none, (some 31), [30]⟩,
  ⟨.len 1 (.tmp 31), none, (some 32), [31]⟩,
  ⟨.bin .sub .other (.tmp 27) (.tmp 32), none, (some 33), [27, 32]⟩,
  ⟨.mv (.tmp 8), none, (some 34), [8]⟩,
  ⟨.mv (.tmp 25), none, (some 2), [25]⟩]
def m63r7 : List MOper := [⟨.mv (.tmp 33), none, (some 3), [33]⟩,
  ⟨.mv (.tmp 34), none, (some 4), [34]⟩]
def m63r8 : List MOper := [⟨.mv (.tmp 6), none, (some 35), [6]⟩,
  ⟨.load (some 2) (.tmp 7), none, (some 36), [7]⟩,
  ⟨.mkfrz [(.int .u8 0), .nils] 1 [(0, (.tmp 36))], none, (some 37), [36]⟩,
  ⟨.append 2 32 (.tmp 35) (.tmp 37), none, (some 38), [35, 37]⟩,
  ⟨.mv (.tmp 38), none, (some 6), [38]⟩]
def m63l9 : MCode := (.seq (.seq (.region m63r3 [0, 5, 6, 17])
  (.cond (.tmp 17)
  .skip
  (.exit 0)))
  (.block 1 (.seq (.region m63r4 [0, 5, 6, 7, 8])
  (.seq (.seq (.region m63r5 [0, 5, 6, 7, 8, 24])
  (.cond (.tmp 24)
  (.seq (.dregion m63r6 m63r7 [] [2, 3, 4])
  .ret)
  .skip))
  (.region m63r8 [0, 5, 6])))))
def m63r10 : List MOper := [⟨.mv (.tmp 6), none, (some 39), [6]⟩,
  ⟨.mv (.tmp 0), none, (some 40), [0]⟩,
  ⟨.len 1 (.tmp 40), none, (some 41), [40]⟩,
  ⟨.mv (.tmp 39), none, (some 2), [39]⟩,
  ⟨.mv (.tmp 41), none, (some 3), [41]⟩,
  ⟨.mv (.lit (.int .u8 0)), none, (some 4), []⟩]
def m63 : MFunc := ⟨42, [.tmp 2, .tmp 3, .tmp 4],
  (.seq (.region m63r0 [0])
  (.seq (.region m63r1 [0, 5])
  (.seq (.region m63r2 [0, 5, 6])
  (.seq (.block 0 (.loop [0, 5, 6] m63l9))
  (.seq (.region m63r10 [2, 3, 4])
  .ret)))))⟩
def h63 : List RH := [⟨[0], 0, false, []⟩, ⟨[0, 5], 0, false, []⟩, ⟨[0, 5, 6], 0, false, []⟩, ⟨[0, 5, 6], 0, false, []⟩, ⟨[0, 5, 6, 17], 0, false, []⟩, ⟨[0, 5, 6, 7, 8], 0, false, []⟩, ⟨[0, 5, 6, 7, 8, 24], 0, false, []⟩, ⟨[2, 3, 4], 11, false, []⟩, ⟨[0, 5, 6], 0, false, []⟩, ⟨[2, 3, 4], 0, false, []⟩]
theorem m63_ok : cmpFn Try.prog 63 h63 = some m63 := by kernel_rfl

/- slices.Clone[[]string,string] -/
def m64r0 : List MOper := [⟨.mv (.lit .nils), none, (some 2), []⟩]
def m64r1 : List MOper := [⟨.mv (.tmp 0), none, (some 3), [0]⟩,
  ⟨.bin .eql .slice (.tmp 3) (.lit .nils), none, (some 4), [3]⟩]
def m64r2 : List MOper := [⟨.mv (.lit .nils), none, (some 2), []⟩]
def m64r3 : List MOper := [⟨.mkslice [(.str [])] 0 [], none, (some 5), []⟩,
  ⟨.mv (.tmp 0), none, (some 6), [0]⟩,
  ⟨.append 1 16 (.tmp 5) (.tmp 6), none, (some 7), [5, 6]⟩,
  ⟨.mv (.tmp 7), none, (some 2), [7]⟩]
def m64 : MFunc := ⟨8, [.tmp 2],
  (.seq (.region m64r0 [0])
  (.seq (.seq (.region m64r1 [0, 4])
  (.cond (.tmp 4)
  (.seq (.region m64r2 [2])
  .ret)
  .skip))
  (.seq (.region m64r3 [2])
  .ret)))⟩
def h64 : List RH := [⟨[0], 0, false, []⟩, ⟨[0, 4], 0, false, []⟩, ⟨[2], 0, false, []⟩, ⟨[2], 0, false, []⟩]
theorem m64_ok : cmpFn Try.prog 64 h64 = some m64 := by kernel_rfl

/- slices.ContainsFunc[[]dialtone/api.Contact,dialtone/api.Contact] -/
def m65r0 : List MOper := [⟨.mv (.lit (.bool false)), none, (some 4), []⟩]
def m65r1 : List MOper := [⟨.mv (.tmp 0), none, (some 5), [0]⟩,
  ⟨.mv (.tmp 1), none, (some 6), [1]⟩,
  ⟨.call 73 [(.tmp 5), (.tmp 6)], none, (some 7), [5, 6]⟩,
  ⟨.bin .geq .other (.tmp 7) (.lit (.int .i64 0)), none, (some 8), [7]⟩,
  ⟨.mv (.tmp 8), none, (some 4), [8]⟩]
def m65 : MFunc := ⟨9, [.tmp 4],
  (.seq (.region m65r0 [0, 1])
  (.seq (.region m65r1 [4])
  .ret))⟩
def h65 : List RH := [⟨[0, 1], 0, false, []⟩, ⟨[4], 0, false, []⟩]
theorem m65_ok : cmpFn Try.prog 65 h65 = some m65 := by kernel_rfl

/- dialtone/registrar.touches$1 -/
def m66r0 : List MOper := [⟨.box 3 (.tmp 0), none, (some 3), [0]⟩,
  ⟨.mv (.lit (.bool false)), none, (some 4), []⟩]
def m66r1 : List MOper := [⟨.faddr 0 (.tmp 3), none, (some 5), [3]⟩,
  ⟨.load none (.tmp 5), none, (some 6), [5]⟩,
  ⟨.faddr 1 (.tmp 1), none, (some 7), [1]⟩,
  ⟨.load none (.tmp 7), none, (some 8), [7]⟩,
  ⟨.bin .eql .other (.tmp 6) (.tmp 8), none, (some 9), [6, 8]⟩,
  ⟨.mv (.tmp 9), none, (some 10), [9]⟩,
  ⟨.faddr 7 (.tmp 2), (some (10, false)), (some 11), [2]⟩,
  ⟨.load none (.tmp 11), (some (10, false)), (some 12), [11]⟩,
  ⟨.bin .neq .other (.tmp 12) (.lit (.int .i64 0)), (some (10, false)), (some 13), [12]⟩,
  ⟨.mv (.tmp 13), (some (10, false)), (some 14), [13]⟩,
  ⟨.faddr 7 (.tmp 2), (some (14, true)), (some 15), [2]⟩,
  ⟨.load none (.tmp 15), (some (14, true)), (some 16), [15]⟩,
  ⟨.faddr 8 (.tmp 1), (some (14, true)), (some 17), [1]⟩,
  ⟨.load none (.tmp 17), (some (14, true)), (some 18), [17]⟩,
  ⟨.bin .eql .other (.tmp 16) (.tmp 18), (some (14, true)), (some 19), [16, 18]⟩,
  ⟨.pick (.tmp 14) (.tmp 19) (.lit (.bool false)), (some (10, false)), (some 20), [14, 19]⟩,
  ⟨.mv (.tmp 20), (some (10, false)), (some 21), [20]⟩,
  ⟨.faddr 6 (.tmp 2), (some (21, true)), (some 22), [2]⟩,
  ⟨.load none (.tmp 22), (some (21, true)), (some 23), [22]⟩,
  ⟨.faddr 7 (.tmp 1), (some (21, true)), (some 24), [1]⟩,
  ⟨.load none (.tmp 24), (some (21, true)), (some 25), [24]⟩,
  ⟨.bin .eql .other (.tmp 23) (.tmp 25), (some (21, true)), (some 26), [23, 25]⟩,
  ⟨.pick (.tmp 21) (.tmp 26) (.lit (.bool false)), (some (10, false)), (some 27), [21, 26]⟩,
  ⟨.pick (.tmp 10) (.lit (.bool true)) (.tmp 27), none, (some 28), [10, 27]⟩,
  ⟨.mv (.tmp 28), none, (some 4), [28]⟩]
def m66 : MFunc := ⟨29, [.tmp 4],
  (.seq (.region m66r0 [1, 2, 3])
  (.seq (.region m66r1 [4])
  .ret))⟩
def h66 : List RH := [⟨[1, 2, 3], 0, false, []⟩, ⟨[4], 0, false, []⟩]
theorem m66_ok : cmpFn Try.prog 66 h66 = some m66 := by kernel_rfl

/- dialtone/journal.put -/
def m67r0 : List MOper := [⟨.mv (.lit .nils), none, (some 6), []⟩]
def m67r1 : List MOper := [⟨.mv (.tmp 2), none, (some 10), [2]⟩,
  ⟨.len 1 (.tmp 10), none, (some 11), [10]⟩,
  ⟨.mv (.lit (.int .i64 0)), none, (some 12), []⟩]
def m67r2 : List MOper := [⟨.bin .lss .other (.tmp 12) (.tmp 11), none, (some 13), [12, 11]⟩]
def m67r3 : List MOper := [⟨.iaddr 1 (.tmp 10) (.tmp 12), none, (some 14), [10, 12]⟩,
  ⟨.load none (.tmp 14), none, (some 15), [14]⟩,
  ⟨.mv (.tmp 15), none, (some 8), [15]⟩]
def m67r4 : List MOper := [⟨.mv (.tmp 1), none, (some 16), [1]⟩,
  ⟨.bin .sub .other (.tmp 16) (.lit (.int .i64 1)), none, (some 17), [16]⟩,
  ⟨.mv (.tmp 17), none, (some 9), [17]⟩]
def m67r5 : List MOper := [⟨.mv (.tmp 9), none, (some 18), [9]⟩,
  ⟨.bin .geq .other (.tmp 18) (.lit (.int .i64 0)), none, (some 19), [18]⟩]
def m67r6 : List MOper := [⟨.mv (.tmp 0), none, (some 22), [0]⟩,
  ⟨.mv (.tmp 8), none, (some 23), [8]⟩,
  ⟨.mv (.tmp 9), none, (some 24), [9]⟩,
  ⟨.bin .mul .other (.lit (.int .i64 8)) (.tmp 24), none, (some 25), [24]⟩,
  ⟨.bin .shr .other (.tmp 23) (.tmp 25), none, (some 26), [23, 25]⟩,
  ⟨.conv .u8 (.tmp 26), none, (some 27), [26]⟩,
  ⟨.mkfrz [(.int .u8 0)] 1 [(0, (.tmp 27))], none, (some 28), [27]⟩,
  ⟨.append 1 1 (.tmp 22) (.tmp 28), none, (some 29), [22, 28]⟩,
  ⟨.mv (.tmp 29), none, (some 0), [29]⟩]
def m67r7 : List MOper := [⟨.mv (.tmp 9), none, (some 20), [9]⟩,
  ⟨.bin .sub .other (.tmp 20) (.lit (.int .i64 1)), none, (some 21), [20]⟩,
  ⟨.mv (.tmp 21), none, (some 9), [21]⟩]
def m67l8 : MCode := (.seq (.seq (.region m67r5 [0, 1, 8, 9, 10, 11, 12, 19])
  (.cond (.tmp 19)
  .skip
  (.exit 2)))
  (.seq (.block 3 (.region m67r6 [0, 1, 8, 9, 10, 11, 12]))
  (.region m67r7 [0, 1, 8, 9, 10, 11, 12])))
def m67r9 : List MOper := [⟨.bin .add .other (.tmp 12) (.lit (.int .i64 1)), none, (some 30), [12]⟩,
  ⟨.mv (.tmp 30), none, (some 12), [30]⟩]
def m67l10 : MCode := (.seq (.region m67r2 [0, 1, 10, 11, 12, 13])
  (.seq (.cond (.tmp 13)
  .skip
  (.exit 0))
  (.seq (.block 1 (.seq (.region m67r3 [0, 1, 8, 10, 11, 12])
  (.seq (.region m67r4 [0, 1, 8, 9, 10, 11, 12])
  (.block 2 (.loop [0, 1, 8, 9, 10, 11, 12] m67l8)))))
  (.region m67r9 [0, 1, 10, 11, 12]))))
def m67r11 : List MOper := [⟨.mv (.tmp 0), none, (some 31), [0]⟩,
  ⟨.mv (.tmp 31), none, (some 6), [31]⟩]
def m67 : MFunc := ⟨32, [.tmp 6],
  (.seq (.region m67r0 [0, 1, 2])
  (.seq (.seq (.region m67r1 [0, 1, 10, 11, 12])
  (.block 0 (.loop [0, 1, 10, 11, 12] m67l10)))
  (.seq (.region m67r11 [6])
  .ret)))⟩
def h67 : List RH := [⟨[0, 1, 2], 0, false, []⟩, ⟨[0, 1, 10, 11, 12], 0, false, []⟩, ⟨[0, 1, 10, 11, 12], 0, false, []⟩, ⟨[0, 1, 10, 11, 12, 13], 0, false, []⟩, ⟨[0, 1, 8, 10, 11, 12], 0, false, []⟩, ⟨[0, 1, 8, 9, 10, 11, 12], 0, false, []⟩, ⟨[0, 1, 8, 9, 10, 11, 12], 0, false, []⟩, ⟨[0, 1, 8, 9, 10, 11, 12, 19], 0, false, []⟩, ⟨[0, 1, 8, 9, 10, 11, 12], 0, false, []⟩, ⟨[0, 1, 8, 9, 10, 11, 12], 0, false, []⟩, ⟨[0, 1, 10, 11, 12], 0, false, []⟩, ⟨[6], 0, false, []⟩]
theorem m67_ok : cmpFn Try.prog 67 h67 = some m67 := by kernel_rfl

/- dialtone/journal.Check -/
def m68r0 : List MOper := [⟨.mv (.lit (.int .u32 0)), none, (some 2), []⟩]
def m68r1 : List MOper := [⟨.mv (.lit (.int .u32 4294967295)), none, (some 3), []⟩]
def m68r2 : List MOper := [⟨.mv (.tmp 0), none, (some 7), [0]⟩,
  ⟨.len 1 (.tmp 7), none, (some 8), [7]⟩,
  ⟨.mv (.lit (.int .i64 0)), none, (some 9), []⟩]
def m68r3 : List MOper := [⟨.bin .lss .other (.tmp 9) (.tmp 8), none, (some 10), [9, 8]⟩]
def m68r4 : List MOper := [⟨.iaddr 1 (.tmp 7) (.tmp 9), none, (some 11), [7, 9]⟩,
  ⟨.load none (.tmp 11), none, (some 12), [11]⟩,
  ⟨.mv (.tmp 12), none, (some 5), [12]⟩]
def m68r5 : List MOper := [⟨.mv (.tmp 3), none, (some 13), [3]⟩,
  ⟨.mv (.tmp 5), none, (some 14), [5]⟩,
  ⟨.conv .u32 (.tmp 14), none, (some 15), [14]⟩,
  ⟨.bin .xor .other (.tmp 13) (.tmp 15), none, (some 16), [13, 15]⟩,
  ⟨.mv (.tmp 16), none, (some 3), [16]⟩]
def m68r6 : List MOper := [⟨.mv (.lit (.int .i64 0)), none, (some 17), []⟩]
def m68r7 : List MOper := [⟨.bin .lss .other (.tmp 17) (.lit (.int .i64 8)), none, (some 18), [17]⟩]
def m68r8 : List MOper := [⟨.mv (.tmp 3), none, (some 19), [3]⟩,
  ⟨.bin .and .other (.tmp 19) (.lit (.int .u32 1)), none, (some 20), [19]⟩,
  ⟨.mv (.tmp 20), none, (some 6), [20]⟩]
def m68r9 : List MOper := [⟨.mv (.tmp 3), none, (some 21), [3]⟩,
  ⟨.bin .shr .other (.tmp 21) (.lit (.int .u64 1)), none, (some 22), [21]⟩,
  ⟨.mv (.tmp 22), none, (some 3), [22]⟩]
def m68r10 : List MOper := [⟨.mv (.tmp 6), none, (some 23), [6]⟩,
  ⟨.bin .eql .other (.tmp 23) (.lit (.int .u32 1)), none, (some 24), [23]⟩]
def m68r11 : List MOper := [⟨.mv (.tmp 3), none, (some 25), [3]⟩,
  ⟨.bin .xor .other (.tmp 25) (.lit (.int .u32 3988292384)), none, (some 26), [25]⟩,
  ⟨.mv (.tmp 26), none, (some 3), [26]⟩]
def m68r12 : List MOper := [⟨.bin .add .other (.tmp 17) (.lit (.int .i64 1)), none, (some 27), [17]⟩,
  ⟨.mv (.tmp 27), none, (some 17), [27]⟩]
def m68l13 : MCode := (.seq (.region m68r7 [3, 7, 8, 9, 17, 18])
  (.seq (.cond (.tmp 18)
  .skip
  (.exit 2))
  (.seq (.block 3 (.seq (.region m68r8 [3, 6, 7, 8, 9, 17])
  (.seq (.region m68r9 [3, 6, 7, 8, 9, 17])
  (.seq (.region m68r10 [3, 7, 8, 9, 17, 24])
  (.cond (.tmp 24)
  (.region m68r11 [3, 7, 8, 9, 17])
  .skip)))))
  (.region m68r12 [3, 7, 8, 9, 17]))))
def m68r14 : List MOper := [⟨.bin .add .other (.tmp 9) (.lit (.int .i64 1)), none, (some 28), [9]⟩,
  ⟨.mv (.tmp 28), none, (some 9), [28]⟩]
def m68l15 : MCode := (.seq (.region m68r3 [3, 7, 8, 9, 10])
  (.seq (.cond (.tmp 10)
  .skip
  (.exit 0))
  (.seq (.block 1 (.seq (.region m68r4 [3, 5, 7, 8, 9])
  (.seq (.region m68r5 [3, 7, 8, 9])
  (.seq (.region m68r6 [3, 7, 8, 9, 17])
  (.block 2 (.loop [3, 7, 8, 9, 17] m68l13))))))
  (.region m68r14 [3, 7, 8, 9]))))
def m68r16 : List MOper := [⟨.mv (.tmp 3), none, (some 29), [3]⟩,
  ⟨.un .xor (.tmp 29), none, (some 30), [29]⟩,
  ⟨.mv (.tmp 30), none, (some 2), [30]⟩]
def m68 : MFunc := ⟨31, [.tmp 2],
  (.seq (.region m68r0 [0])
  (.seq (.region m68r1 [0, 3])
  (.seq (.seq (.region m68r2 [3, 7, 8, 9])
  (.block 0 (.loop [3, 7, 8, 9] m68l15)))
  (.seq (.region m68r16 [2])
  .ret))))⟩
def h68 : List RH := [⟨[0], 0, false, []⟩, ⟨[0, 3], 0, false, []⟩, ⟨[3, 7, 8, 9], 0, false, []⟩, ⟨[3, 7, 8, 9], 0, false, []⟩, ⟨[3, 7, 8, 9, 10], 0, false, []⟩, ⟨[3, 5, 7, 8, 9], 0, false, []⟩, ⟨[3, 7, 8, 9], 0, false, []⟩, ⟨[3, 7, 8, 9, 17], 0, false, []⟩, ⟨[3, 7, 8, 9, 17], 0, false, []⟩, ⟨[3, 7, 8, 9, 17, 18], 0, false, []⟩, ⟨[3, 6, 7, 8, 9, 17], 0, false, []⟩, ⟨[3, 6, 7, 8, 9, 17], 0, false, []⟩, ⟨[3, 7, 8, 9, 17, 24], 0, false, []⟩, ⟨[3, 7, 8, 9, 17], 0, false, []⟩, ⟨[3, 7, 8, 9, 17], 0, false, []⟩, ⟨[3, 7, 8, 9], 0, false, []⟩, ⟨[2], 0, false, []⟩]
theorem m68_ok : cmpFn Try.prog 68 h68 = some m68 := by kernel_rfl

/- slices.stableCmpFunc[dialtone/api.Binding] -/
def m69r0 : List MOper := [⟨.mv (.lit (.int .i64 20)), none, (some 6), []⟩]
def m69r1 : List MOper := [⟨.mv (.tmp 6), none, (some 10), [6]⟩,
  ⟨.mv (.lit (.int .i64 0)), none, (some 7), []⟩,
  ⟨.mv (.tmp 10), none, (some 8), [10]⟩]
def m69r2 : List MOper := [⟨.mv (.tmp 8), none, (some 11), [8]⟩,
  ⟨.mv (.tmp 1), none, (some 12), [1]⟩,
  ⟨.bin .leq .other (.tmp 11) (.tmp 12), none, (some 13), [11, 12]⟩]
def m69r3 : List MOper := [⟨.mv (.tmp 0), none, (some 14), [0]⟩,
  ⟨.mv (.tmp 7), none, (some 15), [7]⟩,
  ⟨.mv (.tmp 8), none, (some 16), [8]⟩,
  ⟨.mv (.tmp 2), none, (some 17), [2]⟩,
  ⟨.call 74 [(.tmp 14), (.tmp 15), (.tmp 16), (.tmp 17)], none, (some 18), [14, 15, 16, 17]⟩]
def m69r4 : List MOper := [⟨.mv (.tmp 8), none, (some 19), [8]⟩,
  ⟨.mv (.tmp 19), none, (some 7), [19]⟩]
def m69r5 : List MOper := [⟨.mv (.tmp 8), none, (some 20), [8]⟩,
  ⟨.mv (.tmp 6), none, (some 21), [6]⟩,
  ⟨.bin .add .other (.tmp 20) (.tmp 21), none, (some 22), [20, 21]⟩,
  ⟨.mv (.tmp 22), none, (some 8), [22]⟩]
def m69l6 : MCode := (.seq (.seq (.region m69r2 [0, 1, 2, 6, 7, 8, 13])
  (.cond (.tmp 13)
  .skip
  (.exit 0)))
  (.block 1 (.seq (.region m69r3 [0, 1, 2, 6, 8])
  (.seq (.region m69r4 [0, 1, 2, 6, 7, 8])
  (.region m69r5 [0, 1, 2, 6, 7, 8])))))
def m69r7 : List MOper := [⟨.mv (.tmp 0), none, (some 23), [0]⟩,
  ⟨.mv (.tmp 7), none, (some 24), [7]⟩,
  ⟨.mv (.tmp 1), none, (some 25), [1]⟩,
  ⟨.mv (.tmp 2), none, (some 26), [2]⟩,
  ⟨.call 74 [(.tmp 23), (.tmp 24), (.tmp 25), (.tmp 26)], none, (some 27), [23, 24, 25, 26]⟩]
def m69r8 : List MOper := [⟨.mv (.tmp 6), none, (some 28), [6]⟩,
  ⟨.mv (.tmp 1), none, (some 29), [1]⟩,
  ⟨.bin .lss .other (.tmp 28) (.tmp 29), none, (some 30), [28, 29]⟩]
def m69r9 : List MOper := [⟨.mv (.tmp 6), none, (some 31), [6]⟩,
  ⟨.bin .mul .other (.lit (.int .i64 2)) (.tmp 31), none, (some 32), [31]⟩,
  ⟨.mv (.lit (.int .i64 0)), none, (some 7), []⟩,
  ⟨.mv (.tmp 32), none, (some 8), [32]⟩]
def m69r10 : List MOper := [⟨.mv (.tmp 8), none, (some 33), [8]⟩,
  ⟨.mv (.tmp 1), none, (some 34), [1]⟩,
  ⟨.bin .leq .other (.tmp 33) (.tmp 34), none, (some 35), [33, 34]⟩]
def m69r11 : List MOper := [⟨.mv (.tmp 0), none, (some 36), [0]⟩,
  ⟨.mv (.tmp 7), none, (some 37), [7]⟩,
  ⟨.mv (.tmp 7), none, (some 38), [7]⟩,
  ⟨.mv (.tmp 6), none, (some 39), [6]⟩,
  ⟨.bin .add .other (.tmp 38) (.tmp 39), none, (some 40), [38, 39]⟩,
  ⟨.mv (.tmp 8), none, (some 41), [8]⟩,
  ⟨.mv (.tmp 2), none, (some 42), [2]⟩,
  ⟨.call 75 [(.tmp 36), (.tmp 37), (.tmp 40), (.tmp 41), (.tmp 42)], none, (some 43), [36, 37, 40, 41, 42]⟩]
def m69r12 : List MOper := [⟨.mv (.tmp 8), none, (some 44), [8]⟩,
  ⟨.mv (.tmp 44), none, (some 7), [44]⟩]
def m69r13 : List MOper := [⟨.mv (.tmp 8), none, (some 45), [8]⟩,
  ⟨.mv (.tmp 6), none, (some 46), [6]⟩,
  ⟨.bin .mul .other (.lit (.int .i64 2)) (.tmp 46), none, (some 47), [46]⟩,
  ⟨.bin .add .other (.tmp 45) (.tmp 47), none, (some 48), [45, 47]⟩,
  ⟨.mv (.tmp 48), none, (some 8), [48]⟩]
def m69l14 : MCode := (.seq (.seq (.region m69r10 [0, 1, 2, 6, 7, 8, 35])
  (.cond (.tmp 35)
  .skip
  (.exit 4)))
  (.block 5 (.seq (.region m69r11 [0, 1, 2, 6, 8])
  (.seq (.region m69r12 [0, 1, 2, 6, 7, 8])
  (.region m69r13 [0, 1, 2, 6, 7, 8])))))
def m69r15 : List MOper := [⟨.mv (.tmp 7), none, (some 49), [7]⟩,
  ⟨.mv (.tmp 6), none, (some 50), [6]⟩,
  ⟨.bin .add .other (.tmp 49) (.tmp 50), none, (some 51), [49, 50]⟩,
  ⟨.mv (.tmp 51), none, (some 9), [51]⟩]
def m69r16 : List MOper := [⟨.mv (.tmp 9), none, (some 52), [9]⟩,
  ⟨.mv (.tmp 1), none, (some 53), [1]⟩,
  ⟨.bin .lss .other (.tmp 52) (.tmp 53), none, (some 54), [52, 53]⟩]
def m69r17 : List MOper := [⟨.mv (.tmp 0), none, (some 55), [0]⟩,
  ⟨.mv (.tmp 7), none, (some 56), [7]⟩,
  ⟨.mv (.tmp 9), none, (some 57), [9]⟩,
  ⟨.mv (.tmp 1), none, (some 58), [1]⟩,
  ⟨.mv (.tmp 2), none, (some 59), [2]⟩,
  ⟨.call 75 [(.tmp 55), (.tmp 56), (.tmp 57), (.tmp 58), (.tmp 59)], none, (some 60), [55, 56, 57, 58, 59]⟩]
def m69r18 : List MOper := [⟨.mv (.tmp 6), none, (some 61), [6]⟩,
  ⟨.bin .mul .other (.tmp 61) (.lit (.int .i64 2)), none, (some 62), [61]⟩,
  ⟨.mv (.tmp 62), none, (some 6), [62]⟩]
def m69l19 : MCode := (.seq (.seq (.region m69r8 [0, 1, 2, 6, 30])
  (.cond (.tmp 30)
  .skip
  (.exit 2)))
  (.block 3 (.seq (.region m69r9 [0, 1, 2, 6, 7, 8])
  (.seq (.block 4 (.loop [0, 1, 2, 6, 7, 8] m69l14))
  (.seq (.seq (.region m69r15 [0, 1, 2, 6, 7, 9])
  (.seq (.region m69r16 [0, 1, 2, 6, 7, 9, 54])
  (.cond (.tmp 54)
  (.region m69r17 [0, 1, 2, 6])
  .skip)))
  (.region m69r18 [0, 1, 2, 6]))))))
def m69 : MFunc := ⟨63, [],
  (.seq (.region m69r0 [0, 1, 2, 6])
  (.seq (.region m69r1 [0, 1, 2, 6, 7, 8])
  (.seq (.block 0 (.loop [0, 1, 2, 6, 7, 8] m69l6))
  (.seq (.region m69r7 [0, 1, 2, 6])
  (.block 2 (.loop [0, 1, 2, 6] m69l19))))))⟩
def h69 : List RH := [⟨[0, 1, 2, 6], 0, false, []⟩, ⟨[0, 1, 2, 6, 7, 8], 0, false, []⟩, ⟨[0, 1, 2, 6, 7, 8], 0, false, []⟩, ⟨[0, 1, 2, 6, 7, 8, 13], 0, false, []⟩, ⟨[0, 1, 2, 6, 8], 0, false, []⟩, ⟨[0, 1, 2, 6, 7, 8], 0, false, []⟩, ⟨[0, 1, 2, 6, 7, 8], 0, false, []⟩, ⟨[0, 1, 2, 6], 0, false, []⟩, ⟨[0, 1, 2, 6], 0, false, []⟩, ⟨[0, 1, 2, 6, 30], 0, false, []⟩, ⟨[0, 1, 2, 6, 7, 8], 0, false, []⟩, ⟨[0, 1, 2, 6, 7, 8], 0, false, []⟩, ⟨[0, 1, 2, 6, 7, 8, 35], 0, false, []⟩, ⟨[0, 1, 2, 6, 8], 0, false, []⟩, ⟨[0, 1, 2, 6, 7, 8], 0, false, []⟩, ⟨[0, 1, 2, 6, 7, 8], 0, false, []⟩, ⟨[0, 1, 2, 6, 7, 9], 0, false, []⟩, ⟨[0, 1, 2, 6, 7, 9, 54], 0, false, []⟩, ⟨[0, 1, 2, 6], 0, false, []⟩, ⟨[0, 1, 2, 6], 0, false, []⟩]
theorem m69_ok : cmpFn Try.prog 69 h69 = some m69 := by kernel_rfl

/- cmp.isNaN[int] -/
def m70r0 : List MOper := [⟨.mv (.lit (.bool false)), none, (some 2), []⟩]
def m70r1 : List MOper := [⟨.mv (.tmp 0), none, (some 3), [0]⟩,
  ⟨.mv (.tmp 0), none, (some 4), [0]⟩,
  ⟨.bin .neq .other (.tmp 3) (.tmp 4), none, (some 5), [3, 4]⟩,
  ⟨.mv (.tmp 5), none, (some 2), [5]⟩]
def m70 : MFunc := ⟨6, [.tmp 2],
  (.seq (.region m70r0 [0])
  (.seq (.region m70r1 [2])
  .ret))⟩
def h70 : List RH := [⟨[0], 0, false, []⟩, ⟨[2], 0, false, []⟩]
theorem m70_ok : cmpFn Try.prog 70 h70 = some m70 := by kernel_rfl

/- cmp.isNaN[string] -/
def m71r0 : List MOper := [⟨.mv (.lit (.bool false)), none, (some 2), []⟩]
def m71r1 : List MOper := [⟨.mv (.tmp 0), none, (some 3), [0]⟩,
  ⟨.mv (.tmp 0), none, (some 4), [0]⟩,
  ⟨.bin .neq .other (.tmp 3) (.tmp 4), none, (some 5), [3, 4]⟩,
  ⟨.mv (.tmp 5), none, (some 2), [5]⟩]
def m71 : MFunc := ⟨6, [.tmp 2],
  (.seq (.region m71r0 [0])
  (.seq (.region m71r1 [2])
  .ret))⟩
def h71 : List RH := [⟨[0], 0, false, []⟩, ⟨[2], 0, false, []⟩]
theorem m71_ok : cmpFn Try.prog 71 h71 = some m71 := by kernel_rfl

/- (*dialtone/journal.cursor).next -/
def m72r0 : List MOper := [⟨.zbox [(.int .u8 0), .nils], none, (some 2), []⟩,
  ⟨.mv (.lit (.int .u8 0)), none, (some 3), []⟩]
def m72r1 : List MOper := [⟨.mv (.tmp 0), none, (some 8), [0]⟩,
  ⟨.nilchk (.tmp 8), none, (some 9), [8]⟩,
  ⟨.faddr 0 (.tmp 9), none, (some 10), [9]⟩,
  ⟨.load none (.tmp 10), none, (some 11), [10]⟩,
  ⟨.mv (.tmp 11), none, (some 4), [11]⟩]
def m72r2 : List MOper := [⟨.mv (.tmp 0), none, (some 12), [0]⟩,
  ⟨.nilchk (.tmp 12), none, (some 13), [12]⟩,
  ⟨.faddr 1 (.tmp 13), none, (some 14), [13]⟩,
  ⟨.load none (.tmp 14), none, (some 15), [14]⟩,
  ⟨.bin .geq .other (.tmp 15) (.lit (.int .i64 1048576)), none, (some 16), [15]⟩,
  ⟨.mv (.tmp 16), none, (some 17), [16]⟩,
  ⟨.mv (.tmp 0), (some (17, false)), (some 18), [0]⟩,
  ⟨.call 76 [(.tmp 18)], (some (17, false)), (some 19), [18]⟩,
  ⟨.pick (.tmp 17) (.lit (.bool true)) (.tmp 19), none, (some 20), [17, 19]⟩]
def m72r3 : List MOper := [⟨.build [(.int .u8 0), .nils] [], none, (some 21), []⟩,
  ⟨.store 2 (.tmp 2) (.tmp 21), none, none, [2, 21]⟩,
  ⟨.mv (.lit (.int .u8 5)), none, (some 3), []⟩]
def m72r4 : List MOper := [⟨.mv (.tmp 4), none, (some 22), [4]⟩,
  ⟨.len 1 (.tmp 22), none, (some 23), [22]⟩,
  ⟨.bin .lss .other (.tmp 23) (.lit (.int .i64 10)), none, (some 24), [23]⟩]
def m72r5 : List MOper := [⟨.build [(.int .u8 0), .nils] [], none, (some 25), []⟩,
  ⟨.store 2 (.tmp 2) (.tmp 25), none, none, [2, 25]⟩,
  ⟨.mv (.lit (.int .u8 6)), none, (some 3), []⟩]
def m72r6 : List MOper := [⟨.mv (.tmp 4), none, (some 26), [4]⟩,
  ⟨.iaddr 1 (.tmp 26) (.lit (.int .i64 6)), none, (some 27), [26]⟩,
  ⟨.load none (.tmp 27), none, (some 28), [27]⟩,
  ⟨.conv .i64 (.tmp 28), none, (some 29), [28]⟩,
  ⟨.bin .shl .other (.tmp 29) (.lit (.int .u64 8)), none, (some 30), [29]⟩,
  ⟨.bin .add .other (.lit (.int .i64 10)) (.tmp 30), none, (some 31), [30]⟩,
  ⟨.mv (.tmp 4), none, (some 32), [4]⟩,
  ⟨.iaddr 1 (.tmp 32) (.lit (.int .i64 7)), none, (some 33), [32]⟩,
  ⟨.load none (.tmp 33), none, (some 34), [33]⟩,
  ⟨.conv .i64 (.tmp 34), none, (some 35), [34]⟩]
def m72r7 : List MOper := [⟨.bin .add .other (.tmp 31) (.tmp 35), none, (some 36), [31, 35]⟩,
  ⟨.mv (.tmp 36), none, (some 5), [36]⟩]
def m72r8 : List MOper := [⟨.mv (.tmp 4), none, (some 37), [4]⟩,
  ⟨.len 1 (.tmp 37), none, (some 38), [37]⟩,
  ⟨.mv (.tmp 5), none, (some 39), [5]⟩,
  ⟨.bin .add .other (.tmp 39) (.lit (.int .i64 4)), none, (some 40), [39]⟩,
  ⟨.bin .lss .other (.tmp 38) (.tmp 40), none, (some 41), [38, 40]⟩]
def m72r9 : List MOper := [⟨.build [(.int .u8 0), .nils] [], none, (some 42), []⟩,
  ⟨.store 2 (.tmp 2) (.tmp 42), none, none, [2, 42]⟩,
  ⟨.mv (.lit (.int .u8 6)), none, (some 3), []⟩]
def m72r10 : List MOper := [⟨.mv (.tmp 4), none, (some 43), [4]⟩,
  ⟨.mv (.tmp 5), none, (some 44), [5]⟩,
  ⟨.mv (.tmp 5), none, (some 45), [5]⟩,
  ⟨.slc 1 (.tmp 43) none (some (.tmp 44)) (some (.tmp 45)), none, (some 46), [43, 44, 45]⟩,
  ⟨.call 68 [(.tmp 46)], none, (some 47), [46]⟩,
  ⟨.mkfrz [(.int .u32 0)] 1 [(0, (.tmp 47))], none, (some 48), [47]⟩,
  ⟨.call 67 [(.lit .nils), (.lit (.int .i64 4)), (.tmp 48)], none, (some 49), [48]⟩,
  ⟨.mv (.tmp 49), none, (some 6), [49]⟩]
def m72r11 : List MOper := [⟨.mv (.tmp 6), none, (some 50), [6]⟩,
  ⟨.tostr (.tmp 50), none, (some 51), [50]⟩,
  ⟨.mv (.tmp 4), none, (some 52), [4]⟩,
  ⟨.mv (.tmp 5), none, (some 53), [5]⟩,
  ⟨.mv (.tmp 5), none, (some 54), [5]⟩,
  ⟨.bin .add .other (.tmp 54) (.lit (.int .i64 4)), none, (some 55), [54]⟩,
  ⟨.mv (.tmp 5), none, (some 56), [5]⟩,
  ⟨.bin .add .other (.tmp 56) (.lit (.int .i64 4)), none, (some 57), [56]⟩,
  ⟨.slc 1 (.tmp 52) (some (.tmp 53)) (some (.tmp 55)) (some (.tmp 57)), none, (some 58), [52, 53, 55, 57]⟩,
  ⟨.tostr (.tmp 58), none, (some 59), [58]⟩]
def m72r12 : List MOper := [⟨.bin .neq .other (.tmp 51) (.tmp 59), none, (some 60), [51, 59]⟩]
def m72r13 : List MOper := [⟨.build [(.int .u8 0), .nils] [], none, (some 61), []⟩,
  ⟨.store 2 (.tmp 2) (.tmp 61), none, none, [2, 61]⟩,
  ⟨.mv (.lit (.int .u8 11)), none, (some 3), []⟩]
def m72r14 : List MOper := [⟨.mv (.tmp 4), none, (some 62), [4]⟩,
  ⟨.iaddr 1 (.tmp 62) (.lit (.int .i64 1)), none, (some 63), [62]⟩,
  ⟨.load none (.tmp 63), none, (some 64), [63]⟩,
  ⟨.mv (.tmp 5), none, (some 65), [5]⟩,
  ⟨.bin .sub .other (.tmp 65) (.lit (.int .i64 10)), none, (some 66), [65]⟩,
  ⟨.make [(.int .u8 0)] 1 (.tmp 66) (.tmp 66), none, (some 67), [66, 66]⟩,
  ⟨.build [(.int .u8 0), .nils] [(0, 1, (.tmp 64)), (1, 1, (.tmp 67))], none, (some 68), [64, 67]⟩,
  ⟨.zbox [(.int .u8 0), .nils], none, (some 7), []⟩]
def m72r15 : List MOper := [⟨.store 2 (.tmp 7) (.tmp 68), none, none, [7, 68]⟩]
def m72r16 : List MOper := [⟨.faddr 1 (.tmp 7), none, (some 69), [7]⟩,
  ⟨.load none (.tmp 69), none, (some 70), [69]⟩,
  ⟨.mv (.tmp 4), none, (some 71), [4]⟩,
  ⟨.mv (.tmp 5), none, (some 72), [5]⟩]
def m72r17 : List MOper := [⟨.mv (.tmp 5), none, (some 73), [5]⟩,
  ⟨.slc 1 (.tmp 71) (some (.lit (.int .i64 10))) (some (.tmp 72)) (some (.tmp 73)), none, (some 74), [71, 72, 73]⟩,
  ⟨.copy 1 (.tmp 70) (.tmp 74), none, (some 75), [70, 74]⟩]
def m72r18 : List MOper := [⟨.load none (.tmp 69), none, (some 70), [69]⟩]
def m72r19 : List MOper := [⟨.load none (.tmp 69), none, (some 70), [69]⟩]
def m72r20 : List MOper := [⟨.load none (.tmp 69), none, (some 70), [69]⟩]
def m72r21 : List MOper := [⟨.mv (.tmp 0), none, (some 76), [0]⟩,
  ⟨.mv (.tmp 4), none, (some 77), [4]⟩,
  ⟨.mv (.tmp 5), none, (some 78), [5]⟩,
  ⟨.bin .add .other (.tmp 78) (.lit (.int .i64 4)), none, (some 79), [78]⟩,
  ⟨.slc 1 (.tmp 77) (some (.tmp 79)) none none, none, (some 80), [77, 79]⟩,
  ⟨.nilchk (.tmp 76), none, (some 81), [76]⟩,
  ⟨.faddr 0 (.tmp 81), none, (some 82), [81]⟩,
  ⟨.store 1 (.tmp 82) (.tmp 80), none, none, [82, 80]⟩]
def m72r22 : List MOper := [⟨.mv (.tmp 0), none, (some 83), [0]⟩,
  ⟨.nilchk (.tmp 83), none, (some 84), [83]⟩,
  ⟨.faddr 1 (.tmp 84), none, (some 85), [84]⟩,
  ⟨.load none (.tmp 85), none, (some 86), [85]⟩,
  ⟨.bin .add .other (.tmp 86) (.lit (.int .i64 1)), none, (some 87), [86]⟩,
  ⟨.nilchk (.tmp 83), none, (some 88), [83]⟩,
  ⟨.faddr 1 (.tmp 88), none, (some 89), [88]⟩,
  ⟨.store 1 (.tmp 89) (.tmp 87), none, none, [89, 87]⟩]
def m72r23 : List MOper := [⟨.load (some 2) (.tmp 7), none, (some 90), [7]⟩,
  ⟨.store 2 (.tmp 2) (.tmp 90), none, none, [2, 90]⟩,
  ⟨.mv (.lit (.int .u8 0)), none, (some 3), []⟩]
def m72 : MFunc := ⟨91, [.cell 2 (some 2), .tmp 3],
  (.seq (.region m72r0 [0, 2])
  (.seq (.region m72r1 [0, 2, 4])
  (.seq (.seq (.region m72r2 [0, 2, 4, 20])
  (.cond (.tmp 20)
  (.seq (.region m72r3 [2, 3])
  .ret)
  .skip))
  (.seq (.seq (.region m72r4 [0, 2, 4, 24])
  (.cond (.tmp 24)
  (.seq (.region m72r5 [2, 3])
  .ret)
  .skip))
  (.seq (.dregion m72r6 m72r7 [] [0, 2, 4, 5])
  (.seq (.seq (.region m72r8 [0, 2, 4, 5, 41])
  (.cond (.tmp 41)
  (.seq (.region m72r9 [2, 3])
  .ret)
  .skip))
  (.seq (.region m72r10 [0, 2, 4, 5, 6])
  (.seq (.seq (.dregion m72r11 m72r12 [] [0, 2, 4, 5, 60])
  (.cond (.tmp 60)
  (.seq (.region m72r13 [2, 3])
  .ret)
  .skip))
  (.seq (.dregion m72r14 m72r15 [] [0, 2, 4, 5, 7])
  (.seq (.dregion m72r16 m72r17 [m72r18, m72r19, m72r20, []] [0, 2, 4, 5, 7])
  (.seq (.region m72r21 [0, 2, 7])
  (.seq (.region m72r22 [2, 7])
  (.seq (.region m72r23 [2, 3])
  .ret)))))))))))))⟩
def h72 : List RH := [⟨[0, 2], 0, false, []⟩, ⟨[0, 2, 4], 0, false, []⟩, ⟨[0, 2, 4, 20], 0, false, []⟩, ⟨[2, 3], 0, false, []⟩, ⟨[0, 2, 4, 24], 0, false, []⟩, ⟨[2, 3], 0, false, []⟩, ⟨[0, 2, 4, 5], 10, false, []⟩, ⟨[0, 2, 4, 5, 41], 0, false, []⟩, ⟨[2, 3], 0, false, []⟩, ⟨[0, 2, 4, 5, 6], 0, false, []⟩, ⟨[0, 2, 4, 5, 60], 10, false, []⟩, ⟨[2, 3], 0, false, []⟩, ⟨[0, 2, 4, 5, 7], 8, false, []⟩, ⟨[0, 2, 4, 5, 7], 4, false, []⟩, ⟨[0, 2, 7], 0, false, []⟩, ⟨[2, 7], 0, false, []⟩, ⟨[2, 3], 0, false, []⟩]
theorem m72_ok : cmpFn Try.prog 72 h72 = some m72 := by kernel_rfl

/- slices.IndexFunc[[]dialtone/api.Contact,dialtone/api.Contact] -/
def m73r0 : List MOper := [⟨.mv (.lit (.int .i64 0)), none, (some 4), []⟩]
def m73r1 : List MOper := [⟨.mv (.tmp 0), none, (some 6), [0]⟩,
  ⟨.len 1 (.tmp 6), none, (some 7), [6]⟩,
  ⟨.mv (.lit (.int .i64 0)), none, (some 8), []⟩]
def m73r2 : List MOper := [⟨.bin .lss .other (.tmp 8) (.tmp 7), none, (some 9), [8, 7]⟩]
def m73r3 : List MOper := [⟨.mv (.tmp 8), none, (some 10), [8]⟩,
  ⟨.mv (.tmp 10), none, (some 5), [10]⟩]
def m73r4 : List MOper := [⟨.mv (.tmp 1), none, (some 11), [1]⟩,
  ⟨.mv (.tmp 0), none, (some 12), [0]⟩,
  ⟨.mv (.tmp 5), none, (some 13), [5]⟩,
  ⟨.iaddr 3 (.tmp 12) (.tmp 13), none, (some 14), [12, 13]⟩,
  ⟨.load (some 3) (.tmp 14), none, (some 15), [14]⟩,
  ⟨.callv (.tmp 11) [(.tmp 15)], none, (some 16), [11, 15]⟩]
def m73r5 : List MOper := [⟨.mv (.tmp 5), none, (some 17), [5]⟩,
  ⟨.mv (.tmp 17), none, (some 4), [17]⟩]
def m73r6 : List MOper := [⟨.bin .add .other (.tmp 8) (.lit (.int .i64 1)), none, (some 18), [8]⟩,
  ⟨.mv (.tmp 18), none, (some 8), [18]⟩]
def m73l7 : MCode := (.seq (.region m73r2 [0, 1, 7, 8, 9])
  (.seq (.cond (.tmp 9)
  .skip
  (.exit 0))
  (.seq (.block 1 (.seq (.region m73r3 [0, 1, 5, 7, 8])
  (.seq (.region m73r4 [0, 1, 5, 7, 8, 16])
  (.cond (.tmp 16)
  (.seq (.region m73r5 [4])
  .ret)
  .skip))))
  (.region m73r6 [0, 1, 7, 8]))))
def m73r8 : List MOper := [⟨.mv (.lit (.int .i64 (-1))), none, (some 4), []⟩]
def m73 : MFunc := ⟨19, [.tmp 4],
  (.seq (.region m73r0 [0, 1])
  (.seq (.seq (.region m73r1 [0, 1, 7, 8])
  (.block 0 (.loop [0, 1, 7, 8] m73l7)))
  (.seq (.region m73r8 [4])
  .ret)))⟩
def h73 : List RH := [⟨[0, 1], 0, false, []⟩, ⟨[0, 1, 7, 8], 0, false, []⟩, ⟨[0, 1, 7, 8], 0, false, []⟩, ⟨[0, 1, 7, 8, 9], 0, false, []⟩, ⟨[0, 1, 5, 7, 8], 0, false, []⟩, ⟨[0, 1, 5, 7, 8, 16], 0, false, []⟩, ⟨[4], 0, false, []⟩, ⟨[0, 1, 7, 8], 0, false, []⟩, ⟨[4], 0, false, []⟩]
theorem m73_ok : cmpFn Try.prog 73 h73 = some m73 := by kernel_rfl

/- slices.insertionSortCmpFunc[dialtone/api.Binding] -/
def m74r0 : List MOper := [⟨.mv (.tmp 1), none, (some 10), [1]⟩,
  ⟨.bin .add .other (.tmp 10) (.lit (.int .i64 1)), none, (some 11), [10]⟩,
  ⟨.mv (.tmp 11), none, (some 8), [11]⟩]
def m74r1 : List MOper := [⟨.mv (.tmp 8), none, (some 12), [8]⟩,
  ⟨.mv (.tmp 2), none, (some 13), [2]⟩,
  ⟨.bin .lss .other (.tmp 12) (.tmp 13), none, (some 14), [12, 13]⟩]
def m74r2 : List MOper := [⟨.mv (.tmp 8), none, (some 17), [8]⟩,
  ⟨.mv (.tmp 17), none, (some 9), [17]⟩]
def m74r3 : List MOper := [⟨.mv (.tmp 9), none, (some 18), [9]⟩,
  ⟨.mv (.tmp 1), none, (some 19), [1]⟩,
  ⟨.bin .gtr .other (.tmp 18) (.tmp 19), none, (some 20), [18, 19]⟩,
  ⟨.mv (.tmp 20), none, (some 21), [20]⟩,
  ⟨.mv (.tmp 3), (some (21, true)), (some 22), [3]⟩,
  ⟨.mv (.tmp 0), (some (21, true)), (some 23), [0]⟩,
  ⟨.mv (.tmp 9), (some (21, true)), (some 24), [9]⟩,
  ⟨.iaddr 10 (.tmp 23) (.tmp 24), (some (21, true)), (some 25), [23, 24]⟩,
  ⟨.load (some 10) (.tmp 25), (some (21, true)), (some 26), [25]⟩,
  ⟨.mv (.tmp 0), (some (21, true)), (some 27), [0]⟩,
  ⟨.mv (.tmp 9), (some (21, true)), (some 28), [9]⟩,
  ⟨.bin .sub .other (.tmp 28) (.lit (.int .i64 1)), (some (21, true)), (some 29), [28]⟩,
  ⟨.iaddr 10 (.tmp 27) (.tmp 29), (some (21, true)), (some 30), [27, 29]⟩,
  ⟨.load (some 10) (.tmp 30), (some (21, true)), (some 31), [30]⟩]
def m74r4 : List MOper := [⟨.callv (.tmp 22) [(.tmp 26), (.tmp 31)], (some (21, true)), (some 32), [22, 26, 31]⟩,
  ⟨.bin .lss .other (.tmp 32) (.lit (.int .i64 0)), (some (21, true)), (some 33), [32]⟩,
  ⟨.pick (.tmp 21) (.tmp 33) (.lit (.bool false)), none, (some 34), [21, 33]⟩]
def m74r5 : List MOper := [⟨.mv (.tmp 0), none, (some 37), [0]⟩,
  ⟨.mv (.tmp 9), none, (some 38), [9]⟩,
  ⟨.mv (.tmp 0), none, (some 39), [0]⟩,
  ⟨.mv (.tmp 9), none, (some 40), [9]⟩,
  ⟨.bin .sub .other (.tmp 40) (.lit (.int .i64 1)), none, (some 41), [40]⟩,
  ⟨.mv (.tmp 0), none, (some 42), [0]⟩,
  ⟨.mv (.tmp 9), none, (some 43), [9]⟩,
  ⟨.bin .sub .other (.tmp 43) (.lit (.int .i64 1)), none, (some 44), [43]⟩,
  ⟨.iaddr 10 (.tmp 42) (.tmp 44), none, (some 45), [42, 44]⟩,
  ⟨.load (some 10) (.tmp 45), none, (some 46), [45]⟩,
  ⟨.mv (.tmp 0), none, (some 47), [0]⟩,
  ⟨.mv (.tmp 9), none, (some 48), [9]⟩,
  ⟨.iaddr 10 (.tmp 47) (.tmp 48), none, (some 49), [47, 48]⟩,
  ⟨.load (some 10) (.tmp 49), none, (some 50), [49]⟩]
def m74r6 : List MOper := [⟨.iaddr 10 (.tmp 37) (.tmp 38), none, (some 51), [37, 38]⟩,
  ⟨.store 10 (.tmp 51) (.tmp 46), none, none, [51, 46]⟩,
  ⟨.iaddr 10 (.tmp 39) (.tmp 41), none, (some 52), [39, 41]⟩,
  ⟨.store 10 (.tmp 52) (.tmp 50), none, none, [52, 50]⟩]
def m74r7 : List MOper := [⟨.mv (.tmp 9), none, (some 35), [9]⟩,
  ⟨.bin .sub .other (.tmp 35) (.lit (.int .i64 1)), none, (some 36), [35]⟩,
  ⟨.mv (.tmp 36), none, (some 9), [36]⟩]
def m74l8 : MCode := (.seq (.seq (.dregion m74r3 m74r4 [] [0, 1, 2, 3, 8, 9, 34])
  (.cond (.tmp 34)
  .skip
  (.exit 2)))
  (.seq (.block 3 (.dregion m74r5 m74r6 [] [0, 1, 2, 3, 8, 9]))
  (.region m74r7 [0, 1, 2, 3, 8, 9])))
def m74r9 : List MOper := [⟨.mv (.tmp 8), none, (some 15), [8]⟩,
  ⟨.bin .add .other (.tmp 15) (.lit (.int .i64 1)), none, (some 16), [15]⟩,
  ⟨.mv (.tmp 16), none, (some 8), [16]⟩]
def m74l10 : MCode := (.seq (.seq (.region m74r1 [0, 1, 2, 3, 8, 14])
  (.cond (.tmp 14)
  .skip
  (.exit 0)))
  (.seq (.block 1 (.seq (.region m74r2 [0, 1, 2, 3, 8, 9])
  (.block 2 (.loop [0, 1, 2, 3, 8, 9] m74l8))))
  (.region m74r9 [0, 1, 2, 3, 8])))
def m74 : MFunc := ⟨53, [],
  (.seq (.region m74r0 [0, 1, 2, 3, 8])
  (.block 0 (.loop [0, 1, 2, 3, 8] m74l10)))⟩
def h74 : List RH := [⟨[0, 1, 2, 3, 8], 0, false, []⟩, ⟨[0, 1, 2, 3, 8], 0, false, []⟩, ⟨[0, 1, 2, 3, 8, 14], 0, false, []⟩, ⟨[0, 1, 2, 3, 8, 9], 0, false, []⟩, ⟨[0, 1, 2, 3, 8, 9], 0, false, []⟩, ⟨[0, 1, 2, 3, 8, 9, 34], 14, false, []⟩, ⟨[0, 1, 2, 3, 8, 9], 14, false, []⟩, ⟨[0, 1, 2, 3, 8, 9], 0, false, []⟩, ⟨[0, 1, 2, 3, 8], 0, false, []⟩]
theorem m74_ok : cmpFn Try.prog 74 h74 = some m74 := by kernel_rfl

/- slices.symMergeCmpFunc[dialtone/api.Binding] -/
def m75r0 : List MOper := [⟨.mv (.tmp 2), none, (some 25), [2]⟩,
  ⟨.mv (.tmp 1), none, (some 26), [1]⟩,
  ⟨.bin .sub .other (.tmp 25) (.tmp 26), none, (some 27), [25, 26]⟩,
  ⟨.bin .eql .other (.tmp 27) (.lit (.int .i64 1)), none, (some 28), [27]⟩]
def m75r1 : List MOper := [⟨.mv (.tmp 2), none, (some 29), [2]⟩,
  ⟨.mv (.tmp 29), none, (some 10), [29]⟩]
def m75r2 : List MOper := [⟨.mv (.tmp 3), none, (some 30), [3]⟩,
  ⟨.mv (.tmp 30), none, (some 11), [30]⟩]
def m75r3 : List MOper := [⟨.mv (.tmp 10), none, (some 31), [10]⟩,
  ⟨.mv (.tmp 11), none, (some 32), [11]⟩,
  ⟨.bin .lss .other (.tmp 31) (.tmp 32), none, (some 33), [31, 32]⟩]
def m75r4 : List MOper := [⟨.mv (.tmp 10), none, (some 34), [10]⟩,
  ⟨.mv (.tmp 11), none, (some 35), [11]⟩,
  ⟨.bin .add .other (.tmp 34) (.tmp 35), none, (some 36), [34, 35]⟩,
  ⟨.conv .u64 (.tmp 36), none, (some 37), [36]⟩,
  ⟨.bin .shr .other (.tmp 37) (.lit (.int .u64 1)), none, (some 38), [37]⟩,
  ⟨.conv .i64 (.tmp 38), none, (some 39), [38]⟩,
  ⟨.mv (.tmp 39), none, (some 12), [39]⟩]
def m75r5 : List MOper := [⟨.mv (.tmp 4), none, (some 40), [4]⟩,
  ⟨.mv (.tmp 0), none, (some 41), [0]⟩,
  ⟨.mv (.tmp 12), none, (some 42), [12]⟩,
  ⟨.iaddr 10 (.tmp 41) (.tmp 42), none, (some 43), [41, 42]⟩,
  ⟨.load (some 10) (.tmp 43), none, (some 44), [43]⟩,
  ⟨.mv (.tmp 0), none, (some 45), [0]⟩,
  ⟨.mv (.tmp 1), none, (some 46), [1]⟩,
  ⟨.iaddr 10 (.tmp 45) (.tmp 46), none, (some 47), [45, 46]⟩,
  ⟨.load (some 10) (.tmp 47), none, (some 48), [47]⟩]
def m75r6 : List MOper := [⟨.callv (.tmp 40) [(.tmp 44), (.tmp 48)], none, (some 49), [40, 44, 48]⟩,
  ⟨.bin .lss .other (.tmp 49) (.lit (.int .i64 0)), none, (some 50), [49]⟩]
def m75r7 : List MOper := [⟨.mv (.tmp 12), none, (some 51), [12]⟩,
  ⟨.bin .add .other (.tmp 51) (.lit (.int .i64 1)), none, (some 52), [51]⟩,
  ⟨.mv (.tmp 52), none, (some 10), [52]⟩]
def m75r8 : List MOper := [⟨.mv (.tmp 12), none, (some 53), [12]⟩,
  ⟨.mv (.tmp 53), none, (some 11), [53]⟩]
def m75l9 : MCode := (.seq (.seq (.region m75r3 [0, 1, 4, 10, 11, 33])
  (.cond (.tmp 33)
  .skip
  (.exit 0)))
  (.block 1 (.seq (.region m75r4 [0, 1, 4, 10, 11, 12])
  (.seq (.dregion m75r5 m75r6 [] [0, 1, 4, 10, 11, 12, 50])
  (.cond (.tmp 50)
  (.region m75r7 [0, 1, 4, 10, 11])
  (.region m75r8 [0, 1, 4, 10, 11]))))))
def m75r10 : List MOper := [⟨.mv (.tmp 1), none, (some 54), [1]⟩,
  ⟨.mv (.tmp 54), none, (some 13), [54]⟩]
def m75r11 : List MOper := [⟨.mv (.tmp 13), none, (some 55), [13]⟩,
  ⟨.mv (.tmp 10), none, (some 56), [10]⟩,
  ⟨.bin .sub .other (.tmp 56) (.lit (.int .i64 1)), none, (some 57), [56]⟩,
  ⟨.bin .lss .other (.tmp 55) (.tmp 57), none, (some 58), [55, 57]⟩]
def m75r12 : List MOper := [⟨.mv (.tmp 0), none, (some 61), [0]⟩,
  ⟨.mv (.tmp 13), none, (some 62), [13]⟩,
  ⟨.mv (.tmp 0), none, (some 63), [0]⟩,
  ⟨.mv (.tmp 13), none, (some 64), [13]⟩,
  ⟨.bin .add .other (.tmp 64) (.lit (.int .i64 1)), none, (some 65), [64]⟩,
  ⟨.mv (.tmp 0), none, (some 66), [0]⟩,
  ⟨.mv (.tmp 13), none, (some 67), [13]⟩,
  ⟨.bin .add .other (.tmp 67) (.lit (.int .i64 1)), none, (some 68), [67]⟩,
  ⟨.iaddr 10 (.tmp 66) (.tmp 68), none, (some 69), [66, 68]⟩,
  ⟨.load (some 10) (.tmp 69), none, (some 70), [69]⟩,
  ⟨.mv (.tmp 0), none, (some 71), [0]⟩,
  ⟨.mv (.tmp 13), none, (some 72), [13]⟩,
  ⟨.iaddr 10 (.tmp 71) (.tmp 72), none, (some 73), [71, 72]⟩,
  ⟨.load (some 10) (.tmp 73), none, (some 74), [73]⟩]
def m75r13 : List MOper := [⟨.iaddr 10 (.tmp 61) (.tmp 62), none, (some 75), [61, 62]⟩,
  ⟨.store 10 (.tmp 75) (.tmp 70), none, none, [75, 70]⟩,
  ⟨.iaddr 10 (.tmp 63) (.tmp 65), none, (some 76), [63, 65]⟩,
  ⟨.store 10 (.tmp 76) (.tmp 74), none, none, [76, 74]⟩]
def m75r14 : List MOper := [⟨.mv (.tmp 13), none, (some 59), [13]⟩,
  ⟨.bin .add .other (.tmp 59) (.lit (.int .i64 1)), none, (some 60), [59]⟩,
  ⟨.mv (.tmp 60), none, (some 13), [60]⟩]
def m75l15 : MCode := (.seq (.seq (.region m75r11 [0, 10, 13, 58])
  (.cond (.tmp 58)
  .skip
  (.exit 2)))
  (.seq (.block 3 (.dregion m75r12 m75r13 [] [0, 10, 13]))
  (.region m75r14 [0, 10, 13])))
def m75r16 : List MOper := [⟨.mv (.tmp 3), none, (some 77), [3]⟩,
  ⟨.mv (.tmp 2), none, (some 78), [2]⟩,
  ⟨.bin .sub .other (.tmp 77) (.tmp 78), none, (some 79), [77, 78]⟩,
  ⟨.bin .eql .other (.tmp 79) (.lit (.int .i64 1)), none, (some 80), [79]⟩]
def m75r17 : List MOper := [⟨.mv (.tmp 1), none, (some 81), [1]⟩,
  ⟨.mv (.tmp 81), none, (some 14), [81]⟩]
def m75r18 : List MOper := [⟨.mv (.tmp 2), none, (some 82), [2]⟩,
  ⟨.mv (.tmp 82), none, (some 15), [82]⟩]
def m75r19 : List MOper := [⟨.mv (.tmp 14), none, (some 83), [14]⟩,
  ⟨.mv (.tmp 15), none, (some 84), [15]⟩,
  ⟨.bin .lss .other (.tmp 83) (.tmp 84), none, (some 85), [83, 84]⟩]
def m75r20 : List MOper := [⟨.mv (.tmp 14), none, (some 86), [14]⟩,
  ⟨.mv (.tmp 15), none, (some 87), [15]⟩,
  ⟨.bin .add .other (.tmp 86) (.tmp 87), none, (some 88), [86, 87]⟩,
  ⟨.conv .u64 (.tmp 88), none, (some 89), [88]⟩,
  ⟨.bin .shr .other (.tmp 89) (.lit (.int .u64 1)), none, (some 90), [89]⟩,
  ⟨.conv .i64 (.tmp 90), none, (some 91), [90]⟩,
  ⟨.mv (.tmp 91), none, (some 16), [91]⟩]
def m75r21 : List MOper := [⟨.mv (.tmp 4), none, (some 92), [4]⟩,
  ⟨.mv (.tmp 0), none, (some 93), [0]⟩,
  ⟨.mv (.tmp 2), none, (some 94), [2]⟩,
  ⟨.iaddr 10 (.tmp 93) (.tmp 94), none, (some 95), [93, 94]⟩,
  ⟨.load (some 10) (.tmp 95), none, (some 96), [95]⟩,
  ⟨.mv (.tmp 0), none, (some 97), [0]⟩,
  ⟨.mv (.tmp 16), none, (some 98), [16]⟩,
  ⟨.iaddr 10 (.tmp 97) (.tmp 98), none, (some 99), [97, 98]⟩,
  ⟨.load (some 10) (.tmp 99), none, (some 100), [99]⟩]
def m75r22 : List MOper := [⟨.callv (.tmp 92) [(.tmp 96), (.tmp 100)], none, (some 101), [92, 96, 100]⟩,
  ⟨.bin .lss .other (.tmp 101) (.lit (.int .i64 0)), none, (some 102), [101]⟩,
  ⟨.un .not (.tmp 102), none, (some 103), [102]⟩]
def m75r23 : List MOper := [⟨.mv (.tmp 16), none, (some 104), [16]⟩,
  ⟨.bin .add .other (.tmp 104) (.lit (.int .i64 1)), none, (some 105), [104]⟩,
  ⟨.mv (.tmp 105), none, (some 14), [105]⟩]
def m75r24 : List MOper := [⟨.mv (.tmp 16), none, (some 106), [16]⟩,
  ⟨.mv (.tmp 106), none, (some 15), [106]⟩]
def m75l25 : MCode := (.seq (.seq (.region m75r19 [0, 2, 4, 14, 15, 85])
  (.cond (.tmp 85)
  .skip
  (.exit 4)))
  (.block 5 (.seq (.region m75r20 [0, 2, 4, 14, 15, 16])
  (.seq (.dregion m75r21 m75r22 [] [0, 2, 4, 14, 15, 16, 103])
  (.cond (.tmp 103)
  (.region m75r23 [0, 2, 4, 14, 15])
  (.region m75r24 [0, 2, 4, 14, 15]))))))
def m75r26 : List MOper := [⟨.mv (.tmp 2), none, (some 107), [2]⟩,
  ⟨.mv (.tmp 107), none, (some 17), [107]⟩]
def m75r27 : List MOper := [⟨.mv (.tmp 17), none, (some 108), [17]⟩,
  ⟨.mv (.tmp 14), none, (some 109), [14]⟩,
  ⟨.bin .gtr .other (.tmp 108) (.tmp 109), none, (some 110), [108, 109]⟩]
def m75r28 : List MOper := [⟨.mv (.tmp 0), none, (some 113), [0]⟩,
  ⟨.mv (.tmp 17), none, (some 114), [17]⟩,
  ⟨.mv (.tmp 0), none, (some 115), [0]⟩,
  ⟨.mv (.tmp 17), none, (some 116), [17]⟩,
  ⟨.bin .sub .other (.tmp 116) (.lit (.int .i64 1)), none, (some 117), [116]⟩,
  ⟨.mv (.tmp 0), none, (some 118), [0]⟩,
  ⟨.mv (.tmp 17), none, (some 119), [17]⟩,
  ⟨.bin .sub .other (.tmp 119) (.lit (.int .i64 1)), none, (some 120), [119]⟩,
  ⟨.iaddr 10 (.tmp 118) (.tmp 120), none, (some 121), [118, 120]⟩,
  ⟨.load (some 10) (.tmp 121), none, (some 122), [121]⟩,
  ⟨.mv (.tmp 0), none, (some 123), [0]⟩,
  ⟨.mv (.tmp 17), none, (some 124), [17]⟩,
  ⟨.iaddr 10 (.tmp 123) (.tmp 124), none, (some 125), [123, 124]⟩,
  ⟨.load (some 10) (.tmp 125), none, (some 126), [125]⟩]
def m75r29 : List MOper := [⟨.iaddr 10 (.tmp 113) (.tmp 114), none, (some 127), [113, 114]⟩,
  ⟨.store 10 (.tmp 127) (.tmp 122), none, none, [127, 122]⟩,
  ⟨.iaddr 10 (.tmp 115) (.tmp 117), none, (some 128), [115, 117]⟩,
  ⟨.store 10 (.tmp 128) (.tmp 126), none, none, [128, 126]⟩]
def m75r30 : List MOper := [⟨.mv (.tmp 17), none, (some 111), [17]⟩,
  ⟨.bin .sub .other (.tmp 111) (.lit (.int .i64 1)), none, (some 112), [111]⟩,
  ⟨.mv (.tmp 112), none, (some 17), [112]⟩]
def m75l31 : MCode := (.seq (.seq (.region m75r27 [0, 14, 17, 110])
  (.cond (.tmp 110)
  .skip
  (.exit 6)))
  (.seq (.block 7 (.dregion m75r28 m75r29 [] [0, 14, 17]))
  (.region m75r30 [0, 14, 17])))
def m75r32 : List MOper := [⟨.mv (.tmp 1), none, (some 129), [1]⟩,
  ⟨.mv (.tmp 3), none, (some 130), [3]⟩,
  ⟨.bin .add .other (.tmp 129) (.tmp 130), none, (some 131), [129, 130]⟩,
  ⟨.conv .u64 (.tmp 131), none, (some 132), [131]⟩,
  ⟨.bin .shr .other (.tmp 132) (.lit (.int .u64 1)), none, (some 133), [132]⟩,
  ⟨.conv .i64 (.tmp 133), none, (some 134), [133]⟩,
  ⟨.mv (.tmp 134), none, (some 18), [134]⟩]
def m75r33 : List MOper := [⟨.mv (.tmp 18), none, (some 135), [18]⟩,
  ⟨.mv (.tmp 2), none, (some 136), [2]⟩,
  ⟨.bin .add .other (.tmp 135) (.tmp 136), none, (some 137), [135, 136]⟩,
  ⟨.mv (.tmp 137), none, (some 19), [137]⟩]
def m75r34 : List MOper := [⟨.mv (.lit (.int .i64 0)), none, (some 20), []⟩,
  ⟨.mv (.lit (.int .i64 0)), none, (some 21), []⟩]
def m75r35 : List MOper := [⟨.mv (.tmp 2), none, (some 138), [2]⟩,
  ⟨.mv (.tmp 18), none, (some 139), [18]⟩,
  ⟨.bin .gtr .other (.tmp 138) (.tmp 139), none, (some 140), [138, 139]⟩]
def m75r36 : List MOper := [⟨.mv (.tmp 19), none, (some 141), [19]⟩,
  ⟨.mv (.tmp 3), none, (some 142), [3]⟩,
  ⟨.bin .sub .other (.tmp 141) (.tmp 142), none, (some 143), [141, 142]⟩,
  ⟨.mv (.tmp 143), none, (some 20), [143]⟩]
def m75r37 : List MOper := [⟨.mv (.tmp 18), none, (some 144), [18]⟩,
  ⟨.mv (.tmp 144), none, (some 21), [144]⟩]
def m75r38 : List MOper := [⟨.mv (.tmp 1), none, (some 145), [1]⟩,
  ⟨.mv (.tmp 145), none, (some 20), [145]⟩]
def m75r39 : List MOper := [⟨.mv (.tmp 2), none, (some 146), [2]⟩,
  ⟨.mv (.tmp 146), none, (some 21), [146]⟩]
def m75r40 : List MOper := [⟨.mv (.tmp 19), none, (some 147), [19]⟩,
  ⟨.bin .sub .other (.tmp 147) (.lit (.int .i64 1)), none, (some 148), [147]⟩,
  ⟨.mv (.tmp 148), none, (some 22), [148]⟩]
def m75r41 : List MOper := [⟨.mv (.tmp 20), none, (some 149), [20]⟩,
  ⟨.mv (.tmp 21), none, (some 150), [21]⟩,
  ⟨.bin .lss .other (.tmp 149) (.tmp 150), none, (some 151), [149, 150]⟩]
def m75r42 : List MOper := [⟨.mv (.tmp 20), none, (some 152), [20]⟩,
  ⟨.mv (.tmp 21), none, (some 153), [21]⟩,
  ⟨.bin .add .other (.tmp 152) (.tmp 153), none, (some 154), [152, 153]⟩,
  ⟨.conv .u64 (.tmp 154), none, (some 155), [154]⟩,
  ⟨.bin .shr .other (.tmp 155) (.lit (.int .u64 1)), none, (some 156), [155]⟩,
  ⟨.conv .i64 (.tmp 156), none, (some 157), [156]⟩,
  ⟨.mv (.tmp 157), none, (some 23), [157]⟩]
def m75r43 : List MOper := [⟨.mv (.tmp 4), none, (some 158), [4]⟩,
  ⟨.mv (.tmp 0), none, (some 159), [0]⟩,
  ⟨.mv (.tmp 22), none, (some 160), [22]⟩,
  ⟨.mv (.tmp 23), none, (some 161), [23]⟩,
  ⟨.bin .sub .other (.tmp 160) (.tmp 161), none, (some 162), [160, 161]⟩,
  ⟨.iaddr 10 (.tmp 159) (.tmp 162), none, (some 163), [159, 162]⟩,
  ⟨.load (some 10) (.tmp 163), none, (some 164), [163]⟩,
  ⟨.mv (.tmp 0), none, (some 165), [0]⟩,
  ⟨.mv (.tmp 23), none, (some 166), [23]⟩,
  ⟨.iaddr 10 (.tmp 165) (.tmp 166), none, (some 167), [165, 166]⟩,
  ⟨.load (some 10) (.tmp 167), none, (some 168), [167]⟩]
def m75r44 : List MOper := [⟨.callv (.tmp 158) [(.tmp 164), (.tmp 168)], none, (some 169), [158, 164, 168]⟩,
  ⟨.bin .lss .other (.tmp 169) (.lit (.int .i64 0)), none, (some 170), [169]⟩,
  ⟨.un .not (.tmp 170), none, (some 171), [170]⟩]
def m75r45 : List MOper := [⟨.mv (.tmp 23), none, (some 172), [23]⟩,
  ⟨.bin .add .other (.tmp 172) (.lit (.int .i64 1)), none, (some 173), [172]⟩,
  ⟨.mv (.tmp 173), none, (some 20), [173]⟩]
def m75r46 : List MOper := [⟨.mv (.tmp 23), none, (some 174), [23]⟩,
  ⟨.mv (.tmp 174), none, (some 21), [174]⟩]
def m75l47 : MCode := (.seq (.seq (.region m75r41 [0, 1, 2, 3, 4, 18, 19, 20, 21, 22, 151])
  (.cond (.tmp 151)
  .skip
  (.exit 8)))
  (.block 9 (.seq (.region m75r42 [0, 1, 2, 3, 4, 18, 19, 20, 21, 22, 23])
  (.seq (.dregion m75r43 m75r44 [] [0, 1, 2, 3, 4, 18, 19, 20, 21, 22, 23, 171])
  (.cond (.tmp 171)
  (.region m75r45 [0, 1, 2, 3, 4, 18, 19, 20, 21, 22])
  (.region m75r46 [0, 1, 2, 3, 4, 18, 19, 20, 21, 22]))))))
def m75r48 : List MOper := [⟨.mv (.tmp 19), none, (some 175), [19]⟩,
  ⟨.mv (.tmp 20), none, (some 176), [20]⟩,
  ⟨.bin .sub .other (.tmp 175) (.tmp 176), none, (some 177), [175, 176]⟩,
  ⟨.mv (.tmp 177), none, (some 24), [177]⟩]
def m75r49 : List MOper := [⟨.mv (.tmp 20), none, (some 178), [20]⟩,
  ⟨.mv (.tmp 2), none, (some 179), [2]⟩,
  ⟨.bin .lss .other (.tmp 178) (.tmp 179), none, (some 180), [178, 179]⟩,
  ⟨.mv (.tmp 180), none, (some 181), [180]⟩,
  ⟨.mv (.tmp 2), (some (181, true)), (some 182), [2]⟩,
  ⟨.mv (.tmp 24), (some (181, true)), (some 183), [24]⟩,
  ⟨.bin .lss .other (.tmp 182) (.tmp 183), (some (181, true)), (some 184), [182, 183]⟩,
  ⟨.pick (.tmp 181) (.tmp 184) (.lit (.bool false)), none, (some 185), [181, 184]⟩]
def m75r50 : List MOper := [⟨.mv (.tmp 0), none, (some 186), [0]⟩,
  ⟨.mv (.tmp 20), none, (some 187), [20]⟩,
  ⟨.mv (.tmp 2), none, (some 188), [2]⟩,
  ⟨.mv (.tmp 24), none, (some 189), [24]⟩,
  ⟨.mv (.tmp 4), none, (some 190), [4]⟩,
  ⟨.call 77 [(.tmp 186), (.tmp 187), (.tmp 188), (.tmp 189), (.tmp 190)], none, (some 191), [186, 187, 188, 189, 190]⟩]
def m75r51 : List MOper := [⟨.mv (.tmp 1), none, (some 192), [1]⟩,
  ⟨.mv (.tmp 20), none, (some 193), [20]⟩,
  ⟨.bin .lss .other (.tmp 192) (.tmp 193), none, (some 194), [192, 193]⟩,
  ⟨.mv (.tmp 194), none, (some 195), [194]⟩,
  ⟨.mv (.tmp 20), (some (195, true)), (some 196), [20]⟩,
  ⟨.mv (.tmp 18), (some (195, true)), (some 197), [18]⟩,
  ⟨.bin .lss .other (.tmp 196) (.tmp 197), (some (195, true)), (some 198), [196, 197]⟩,
  ⟨.pick (.tmp 195) (.tmp 198) (.lit (.bool false)), none, (some 199), [195, 198]⟩]
def m75r52 : List MOper := [⟨.mv (.tmp 0), none, (some 200), [0]⟩,
  ⟨.mv (.tmp 1), none, (some 201), [1]⟩,
  ⟨.mv (.tmp 20), none, (some 202), [20]⟩,
  ⟨.mv (.tmp 18), none, (some 203), [18]⟩,
  ⟨.mv (.tmp 4), none, (some 204), [4]⟩,
  ⟨.call 75 [(.tmp 200), (.tmp 201), (.tmp 202), (.tmp 203), (.tmp 204)], none, (some 205), [200, 201, 202, 203, 204]⟩]
def m75r53 : List MOper := [⟨.mv (.tmp 18), none, (some 206), [18]⟩,
  ⟨.mv (.tmp 24), none, (some 207), [24]⟩,
  ⟨.bin .lss .other (.tmp 206) (.tmp 207), none, (some 208), [206, 207]⟩,
  ⟨.mv (.tmp 208), none, (some 209), [208]⟩,
  ⟨.mv (.tmp 24), (some (209, true)), (some 210), [24]⟩,
  ⟨.mv (.tmp 3), (some (209, true)), (some 211), [3]⟩,
  ⟨.bin .lss .other (.tmp 210) (.tmp 211), (some (209, true)), (some 212), [210, 211]⟩,
  ⟨.pick (.tmp 209) (.tmp 212) (.lit (.bool false)), none, (some 213), [209, 212]⟩]
def m75r54 : List MOper := [⟨.mv (.tmp 0), none, (some 214), [0]⟩,
  ⟨.mv (.tmp 18), none, (some 215), [18]⟩,
  ⟨.mv (.tmp 24), none, (some 216), [24]⟩,
  ⟨.mv (.tmp 3), none, (some 217), [3]⟩,
  ⟨.mv (.tmp 4), none, (some 218), [4]⟩,
  ⟨.call 75 [(.tmp 214), (.tmp 215), (.tmp 216), (.tmp 217), (.tmp 218)], none, (some 219), [214, 215, 216, 217, 218]⟩]
def m75 : MFunc := ⟨220, [],
  (.seq (.seq (.region m75r0 [0, 1, 2, 3, 4, 28])
  (.cond (.tmp 28)
  (.seq (.region m75r1 [0, 1, 3, 4, 10])
  (.seq (.region m75r2 [0, 1, 4, 10, 11])
  (.seq (.block 0 (.loop [0, 1, 4, 10, 11] m75l9))
  (.seq (.seq (.region m75r10 [0, 10, 13])
  (.block 2 (.loop [0, 10, 13] m75l15)))
  .ret))))
  .skip))
  (.seq (.seq (.region m75r16 [0, 1, 2, 3, 4, 80])
  (.cond (.tmp 80)
  (.seq (.region m75r17 [0, 2, 4, 14])
  (.seq (.region m75r18 [0, 2, 4, 14, 15])
  (.seq (.block 4 (.loop [0, 2, 4, 14, 15] m75l25))
  (.seq (.seq (.region m75r26 [0, 14, 17])
  (.block 6 (.loop [0, 14, 17] m75l31)))
  .ret))))
  .skip))
  (.seq (.region m75r32 [0, 1, 2, 3, 4, 18])
  (.seq (.region m75r33 [0, 1, 2, 3, 4, 18, 19])
  (.seq (.region m75r34 [0, 1, 2, 3, 4, 18, 19])
  (.seq (.seq (.region m75r35 [0, 1, 2, 3, 4, 18, 19, 140])
  (.cond (.tmp 140)
  (.seq (.region m75r36 [0, 1, 2, 3, 4, 18, 19, 20])
  (.region m75r37 [0, 1, 2, 3, 4, 18, 19, 20, 21]))
  (.seq (.region m75r38 [0, 1, 2, 3, 4, 18, 19, 20])
  (.region m75r39 [0, 1, 2, 3, 4, 18, 19, 20, 21]))))
  (.seq (.region m75r40 [0, 1, 2, 3, 4, 18, 19, 20, 21, 22])
  (.seq (.block 8 (.loop [0, 1, 2, 3, 4, 18, 19, 20, 21, 22] m75l47))
  (.seq (.region m75r48 [0, 1, 2, 3, 4, 18, 20, 24])
  (.seq (.seq (.region m75r49 [0, 1, 2, 3, 4, 18, 20, 24, 185])
  (.cond (.tmp 185)
  (.region m75r50 [0, 1, 3, 4, 18, 20, 24])
  .skip))
  (.seq (.seq (.region m75r51 [0, 1, 3, 4, 18, 20, 24, 199])
  (.cond (.tmp 199)
  (.region m75r52 [0, 3, 4, 18, 24])
  .skip))
  (.seq (.region m75r53 [0, 3, 4, 18, 24, 213])
  (.cond (.tmp 213)
  (.region m75r54 [])
  .skip)))))))))))))⟩
def h75 : List RH := [⟨[0, 1, 2, 3, 4, 28], 0, false, []⟩, ⟨[0, 1, 3, 4, 10], 0, false, []⟩, ⟨[0, 1, 4, 10, 11], 0, false, []⟩, ⟨[0, 1, 4, 10, 11], 0, false, []⟩, ⟨[0, 1, 4, 10, 11, 33], 0, false, []⟩, ⟨[0, 1, 4, 10, 11, 12], 0, false, []⟩, ⟨[0, 1, 4, 10, 11, 12, 50], 9, false, []⟩, ⟨[0, 1, 4, 10, 11], 0, false, []⟩, ⟨[0, 1, 4, 10, 11], 0, false, []⟩, ⟨[0, 10, 13], 0, false, []⟩, ⟨[0, 10, 13], 0, false, []⟩, ⟨[0, 10, 13, 58], 0, false, []⟩, ⟨[0, 10, 13], 14, false, []⟩, ⟨[0, 10, 13], 0, false, []⟩, ⟨[0, 1, 2, 3, 4, 80], 0, false, []⟩, ⟨[0, 2, 4, 14], 0, false, []⟩, ⟨[0, 2, 4, 14, 15], 0, false, []⟩, ⟨[0, 2, 4, 14, 15], 0, false, []⟩, ⟨[0, 2, 4, 14, 15, 85], 0, false, []⟩, ⟨[0, 2, 4, 14, 15, 16], 0, false, []⟩, ⟨[0, 2, 4, 14, 15, 16, 103], 9, false, []⟩, ⟨[0, 2, 4, 14, 15], 0, false, []⟩, ⟨[0, 2, 4, 14, 15], 0, false, []⟩, ⟨[0, 14, 17], 0, false, []⟩, ⟨[0, 14, 17], 0, false, []⟩, ⟨[0, 14, 17, 110], 0, false, []⟩, ⟨[0, 14, 17], 14, false, []⟩, ⟨[0, 14, 17], 0, false, []⟩, ⟨[0, 1, 2, 3, 4, 18], 0, false, []⟩, ⟨[0, 1, 2, 3, 4, 18, 19], 0, false, []⟩, ⟨[0, 1, 2, 3, 4, 18, 19], 0, false, []⟩, ⟨[0, 1, 2, 3, 4, 18, 19, 140], 0, false, []⟩, ⟨[0, 1, 2, 3, 4, 18, 19, 20], 0, false, []⟩, ⟨[0, 1, 2, 3, 4, 18, 19, 20, 21], 0, false, []⟩, ⟨[0, 1, 2, 3, 4, 18, 19, 20], 0, false, []⟩, ⟨[0, 1, 2, 3, 4, 18, 19, 20, 21], 0, false, []⟩, ⟨[0, 1, 2, 3, 4, 18, 19, 20, 21, 22], 0, false, []⟩, ⟨[0, 1, 2, 3, 4, 18, 19, 20, 21, 22], 0, false, []⟩, ⟨[0, 1, 2, 3, 4, 18, 19, 20, 21, 22, 151], 0, false, []⟩, ⟨[0, 1, 2, 3, 4, 18, 19, 20, 21, 22, 23], 0, false, []⟩, ⟨[0, 1, 2, 3, 4, 18, 19, 20, 21, 22, 23, 171], 11, false, []⟩, ⟨[0, 1, 2, 3, 4, 18, 19, 20, 21, 22], 0, false, []⟩, ⟨[0, 1, 2, 3, 4, 18, 19, 20, 21, 22], 0, false, []⟩, ⟨[0, 1, 2, 3, 4, 18, 20, 24], 0, false, []⟩, ⟨[0, 1, 2, 3, 4, 18, 20, 24, 185], 0, false, []⟩, ⟨[0, 1, 3, 4, 18, 20, 24], 0, false, []⟩, ⟨[0, 1, 3, 4, 18, 20, 24, 199], 0, false, []⟩, ⟨[0, 3, 4, 18, 24], 0, false, []⟩, ⟨[0, 3, 4, 18, 24, 213], 0, false, []⟩, ⟨[], 0, false, []⟩]
theorem m75_ok : cmpFn Try.prog 75 h75 = some m75 := by kernel_rfl

/- (*dialtone/journal.cursor).damaged -/
def m76r0 : List MOper := [⟨.mv (.lit (.bool false)), none, (some 2), []⟩]
def m76r1 : List MOper := [⟨.mv (.tmp 0), none, (some 6), [0]⟩,
  ⟨.nilchk (.tmp 6), none, (some 7), [6]⟩,
  ⟨.faddr 0 (.tmp 7), none, (some 8), [7]⟩,
  ⟨.load none (.tmp 8), none, (some 9), [8]⟩,
  ⟨.mv (.tmp 9), none, (some 3), [9]⟩]
def m76r2 : List MOper := [⟨.mkslice [(.int .u8 0)] 2 [(0, (.lit (.int .u8 167))), (1, (.lit (.int .u8 0)))], none, (some 10), []⟩,
  ⟨.mv (.tmp 0), none, (some 11), [0]⟩,
  ⟨.nilchk (.tmp 11), none, (some 12), [11]⟩,
  ⟨.faddr 1 (.tmp 12), none, (some 13), [12]⟩,
  ⟨.load none (.tmp 13), none, (some 14), [13]⟩,
  ⟨.conv .u32 (.tmp 14), none, (some 15), [14]⟩,
  ⟨.mkfrz [(.int .u32 0)] 1 [(0, (.tmp 15))], none, (some 16), [15]⟩,
  ⟨.call 67 [(.tmp 10), (.lit (.int .i64 4)), (.tmp 16)], none, (some 17), [10, 16]⟩,
  ⟨.mv (.tmp 17), none, (some 4), [17]⟩]
def m76r3 : List MOper := [⟨.mv (.tmp 3), none, (some 18), [3]⟩,
  ⟨.len 1 (.tmp 18), none, (some 19), [18]⟩,
  ⟨.mv (.tmp 4), none, (some 20), [4]⟩,
  ⟨.len 1 (.tmp 20), none, (some 21), [20]⟩,
  ⟨.minmax false (.tmp 19) [(.tmp 21)], none, (some 22), [19, 21]⟩,
  ⟨.mv (.lit (.int .i64 0)), none, (some 23), []⟩]
def m76r4 : List MOper := [⟨.bin .lss .other (.tmp 23) (.tmp 22), none, (some 24), [23, 22]⟩]
def m76r5 : List MOper := [⟨.mv (.tmp 23), none, (some 25), [23]⟩,
  ⟨.mv (.tmp 25), none, (some 5), [25]⟩]
def m76r6 : List MOper := [⟨.mv (.tmp 5), none, (some 26), [5]⟩,
  ⟨.bin .neq .other (.tmp 26) (.lit (.int .i64 1)), none, (some 27), [26]⟩,
  ⟨.mv (.tmp 27), none, (some 28), [27]⟩,
  ⟨.mv (.tmp 3), (some (28, true)), (some 29), [3]⟩,
  ⟨.mv (.tmp 5), (some (28, true)), (some 30), [5]⟩,
  ⟨.iaddr 1 (.tmp 29) (.tmp 30), (some (28, true)), (some 31), [29, 30]⟩,
  ⟨.load none (.tmp 31), (some (28, true)), (some 32), [31]⟩,
  ⟨.mv (.tmp 4), (some (28, true)), (some 33), [4]⟩,
  ⟨.mv (.tmp 5), (some (28, true)), (some 34), [5]⟩,
  ⟨.iaddr 1 (.tmp 33) (.tmp 34), (some (28, true)), (some 35), [33, 34]⟩,
  ⟨.load none (.tmp 35), (some (28, true)), (some 36), [35]⟩]
def m76r7 : List MOper := [⟨.bin .neq .other (.tmp 32) (.tmp 36), (some (28, true)), (some 37), [32, 36]⟩,
  ⟨.pick (.tmp 28) (.tmp 37) (.lit (.bool false)), none, (some 38), [28, 37]⟩]
def m76r8 : List MOper := [⟨.mv (.lit (.bool true)), none, (some 2), []⟩]
def m76r9 : List MOper := [⟨.bin .add .other (.tmp 23) (.lit (.int .i64 1)), none, (some 39), [23]⟩,
  ⟨.mv (.tmp 39), none, (some 23), [39]⟩]
def m76l10 : MCode := (.seq (.region m76r4 [3, 4, 22, 23, 24])
  (.seq (.cond (.tmp 24)
  .skip
  (.exit 0))
  (.seq (.block 1 (.seq (.region m76r5 [3, 4, 5, 22, 23])
  (.seq (.dregion m76r6 m76r7 [] [3, 4, 22, 23, 38])
  (.cond (.tmp 38)
  (.seq (.region m76r8 [2])
  .ret)
  .skip))))
  (.region m76r9 [3, 4, 22, 23]))))
def m76r11 : List MOper := [⟨.mv (.tmp 3), none, (some 40), [3]⟩,
  ⟨.len 1 (.tmp 40), none, (some 41), [40]⟩,
  ⟨.bin .geq .other (.tmp 41) (.lit (.int .i64 8)), none, (some 42), [41]⟩,
  ⟨.mv (.tmp 42), none, (some 43), [42]⟩,
  ⟨.mv (.tmp 3), (some (43, true)), (some 44), [3]⟩,
  ⟨.iaddr 1 (.tmp 44) (.lit (.int .i64 6)), (some (43, true)), (some 45), [44]⟩,
  ⟨.load none (.tmp 45), (some (43, true)), (some 46), [45]⟩,
  ⟨.conv .i64 (.tmp 46), (some (43, true)), (some 47), [46]⟩,
  ⟨.bin .shl .other (.tmp 47) (.lit (.int .u64 8)), (some (43, true)), (some 48), [47]⟩,
  ⟨.mv (.tmp 3), (some (43, true)), (some 49), [3]⟩,
  ⟨.iaddr 1 (.tmp 49) (.lit (.int .i64 7)), (some (43, true)), (some 50), [49]⟩,
  ⟨.load none (.tmp 50), (some (43, true)), (some 51), [50]⟩,
  ⟨.conv .i64 (.tmp 51), (some (43, true)), (some 52), [51]⟩]
def m76r12 : List MOper := [⟨.bin .add .other (.tmp 48) (.tmp 52), (some (43, true)), (some 53), [48, 52]⟩,
  ⟨.bin .gtr .other (.tmp 53) (.lit (.int .i64 4096)), (some (43, true)), (some 54), [53]⟩,
  ⟨.pick (.tmp 43) (.tmp 54) (.lit (.bool false)), none, (some 55), [43, 54]⟩]
def m76r13 : List MOper := [⟨.mv (.lit (.bool true)), none, (some 2), []⟩]
def m76r14 : List MOper := [⟨.mv (.tmp 3), none, (some 56), [3]⟩,
  ⟨.len 1 (.tmp 56), none, (some 57), [56]⟩,
  ⟨.bin .gtr .other (.tmp 57) (.lit (.int .i64 8)), none, (some 58), [57]⟩,
  ⟨.mv (.tmp 58), none, (some 59), [58]⟩,
  ⟨.mv (.tmp 3), (some (59, true)), (some 60), [3]⟩,
  ⟨.iaddr 1 (.tmp 60) (.lit (.int .i64 8)), (some (59, true)), (some 61), [60]⟩,
  ⟨.load none (.tmp 61), (some (59, true)), (some 62), [61]⟩,
  ⟨.mv (.tmp 3), (some (59, true)), (some 63), [3]⟩,
  ⟨.iaddr 1 (.tmp 63) (.lit (.int .i64 6)), (some (59, true)), (some 64), [63]⟩,
  ⟨.load none (.tmp 64), (some (59, true)), (some 65), [64]⟩,
  ⟨.un .xor (.tmp 65), (some (59, true)), (some 66), [65]⟩,
  ⟨.bin .neq .other (.tmp 62) (.tmp 66), (some (59, true)), (some 67), [62, 66]⟩,
  ⟨.pick (.tmp 59) (.tmp 67) (.lit (.bool false)), none, (some 68), [59, 67]⟩,
  ⟨.mv (.tmp 68), none, (some 69), [68]⟩,
  ⟨.mv (.tmp 3), (some (69, false)), (some 70), [3]⟩,
  ⟨.len 1 (.tmp 70), (some (69, false)), (some 71), [70]⟩,
  ⟨.bin .gtr .other (.tmp 71) (.lit (.int .i64 9)), (some (69, false)), (some 72), [71]⟩,
  ⟨.mv (.tmp 72), (some (69, false)), (some 73), [72]⟩,
  ⟨.mv (.tmp 3), (some (73, true)), (some 74), [3]⟩,
  ⟨.iaddr 1 (.tmp 74) (.lit (.int .i64 9)), (some (73, true)), (some 75), [74]⟩,
  ⟨.load none (.tmp 75), (some (73, true)), (some 76), [75]⟩,
  ⟨.mv (.tmp 3), (some (73, true)), (some 77), [3]⟩,
  ⟨.iaddr 1 (.tmp 77) (.lit (.int .i64 7)), (some (73, true)), (some 78), [77]⟩,
  ⟨.load none (.tmp 78), (some (73, true)), (some 79), [78]⟩,
  ⟨.un .xor (.tmp 79), (some (73, true)), (some 80), [79]⟩]
def m76r15 : List MOper := [⟨.bin .neq .other (.tmp 76) (.tmp 80), (some (73, true)), (some 81), [76, 80]⟩,
  ⟨.pick (.tmp 73) (.tmp 81) (.lit (.bool false)), (some (69, false)), (some 82), [73, 81]⟩,
  ⟨.pick (.tmp 69) (.lit (.bool true)) (.tmp 82), none, (some 83), [69, 82]⟩,
  ⟨.mv (.tmp 83), none, (some 2), [83]⟩]
def m76 : MFunc := ⟨84, [.tmp 2],
  (.seq (.region m76r0 [0])
  (.seq (.region m76r1 [0, 3])
  (.seq (.region m76r2 [3, 4])
  (.seq (.seq (.region m76r3 [3, 4, 22, 23])
  (.block 0 (.loop [3, 4, 22, 23] m76l10)))
  (.seq (.seq (.dregion m76r11 m76r12 [] [3, 55])
  (.cond (.tmp 55)
  (.seq (.region m76r13 [2])
  .ret)
  .skip))
  (.seq (.dregion m76r14 m76r15 [] [2])
  .ret))))))⟩
def h76 : List RH := [⟨[0], 0, false, []⟩, ⟨[0, 3], 0, false, []⟩, ⟨[3, 4], 0, false, []⟩, ⟨[3, 4, 22, 23], 0, false, []⟩, ⟨[3, 4, 22, 23], 0, false, []⟩, ⟨[3, 4, 22, 23, 24], 0, false, []⟩, ⟨[3, 4, 5, 22, 23], 0, false, []⟩, ⟨[3, 4, 22, 23, 38], 11, false, []⟩, ⟨[2], 0, false, []⟩, ⟨[3, 4, 22, 23], 0, false, []⟩, ⟨[3, 55], 13, false, []⟩, ⟨[2], 0, false, []⟩, ⟨[2], 25, false, []⟩]
theorem m76_ok : cmpFn Try.prog 76 h76 = some m76 := by kernel_rfl

/- slices.rotateCmpFunc[dialtone/api.Binding] -/
def m77r0 : List MOper := [⟨.mv (.tmp 2), none, (some 12), [2]⟩,
  ⟨.mv (.tmp 1), none, (some 13), [1]⟩,
  ⟨.bin .sub .other (.tmp 12) (.tmp 13), none, (some 14), [12, 13]⟩,
  ⟨.mv (.tmp 14), none, (some 10), [14]⟩]
def m77r1 : List MOper := [⟨.mv (.tmp 3), none, (some 15), [3]⟩,
  ⟨.mv (.tmp 2), none, (some 16), [2]⟩,
  ⟨.bin .sub .other (.tmp 15) (.tmp 16), none, (some 17), [15, 16]⟩,
  ⟨.mv (.tmp 17), none, (some 11), [17]⟩]
def m77r2 : List MOper := [⟨.mv (.tmp 10), none, (some 18), [10]⟩,
  ⟨.mv (.tmp 11), none, (some 19), [11]⟩,
  ⟨.bin .neq .other (.tmp 18) (.tmp 19), none, (some 20), [18, 19]⟩]
def m77r3 : List MOper := [⟨.mv (.tmp 10), none, (some 21), [10]⟩,
  ⟨.mv (.tmp 11), none, (some 22), [11]⟩,
  ⟨.bin .gtr .other (.tmp 21) (.tmp 22), none, (some 23), [21, 22]⟩]
def m77r4 : List MOper := [⟨.mv (.tmp 0), none, (some 24), [0]⟩,
  ⟨.mv (.tmp 2), none, (some 25), [2]⟩,
  ⟨.mv (.tmp 10), none, (some 26), [10]⟩,
  ⟨.bin .sub .other (.tmp 25) (.tmp 26), none, (some 27), [25, 26]⟩,
  ⟨.mv (.tmp 2), none, (some 28), [2]⟩,
  ⟨.mv (.tmp 11), none, (some 29), [11]⟩,
  ⟨.mv (.tmp 4), none, (some 30), [4]⟩,
  ⟨.call 78 [(.tmp 24), (.tmp 27), (.tmp 28), (.tmp 29), (.tmp 30)], none, (some 31), [24, 27, 28, 29, 30]⟩]
def m77r5 : List MOper := [⟨.mv (.tmp 10), none, (some 32), [10]⟩,
  ⟨.mv (.tmp 11), none, (some 33), [11]⟩,
  ⟨.bin .sub .other (.tmp 32) (.tmp 33), none, (some 34), [32, 33]⟩,
  ⟨.mv (.tmp 34), none, (some 10), [34]⟩]
def m77r6 : List MOper := [⟨.mv (.tmp 0), none, (some 35), [0]⟩,
  ⟨.mv (.tmp 2), none, (some 36), [2]⟩,
  ⟨.mv (.tmp 10), none, (some 37), [10]⟩,
  ⟨.bin .sub .other (.tmp 36) (.tmp 37), none, (some 38), [36, 37]⟩,
  ⟨.mv (.tmp 2), none, (some 39), [2]⟩,
  ⟨.mv (.tmp 11), none, (some 40), [11]⟩,
  ⟨.bin .add .other (.tmp 39) (.tmp 40), none, (some 41), [39, 40]⟩,
  ⟨.mv (.tmp 10), none, (some 42), [10]⟩,
  ⟨.bin .sub .other (.tmp 41) (.tmp 42), none, (some 43), [41, 42]⟩,
  ⟨.mv (.tmp 10), none, (some 44), [10]⟩,
  ⟨.mv (.tmp 4), none, (some 45), [4]⟩,
  ⟨.call 78 [(.tmp 35), (.tmp 38), (.tmp 43), (.tmp 44), (.tmp 45)], none, (some 46), [35, 38, 43, 44, 45]⟩]
def m77r7 : List MOper := [⟨.mv (.tmp 11), none, (some 47), [11]⟩,
  ⟨.mv (.tmp 10), none, (some 48), [10]⟩,
  ⟨.bin .sub .other (.tmp 47) (.tmp 48), none, (some 49), [47, 48]⟩,
  ⟨.mv (.tmp 49), none, (some 11), [49]⟩]
def m77l8 : MCode := (.seq (.seq (.region m77r2 [0, 2, 4, 10, 11, 20])
  (.cond (.tmp 20)
  .skip
  (.exit 0)))
  (.block 1 (.seq (.region m77r3 [0, 2, 4, 10, 11, 23])
  (.cond (.tmp 23)
  (.seq (.region m77r4 [0, 2, 4, 10, 11])
  (.region m77r5 [0, 2, 4, 10, 11]))
  (.seq (.region m77r6 [0, 2, 4, 10, 11])
  (.region m77r7 [0, 2, 4, 10, 11]))))))
def m77r9 : List MOper := [⟨.mv (.tmp 0), none, (some 50), [0]⟩,
  ⟨.mv (.tmp 2), none, (some 51), [2]⟩,
  ⟨.mv (.tmp 10), none, (some 52), [10]⟩,
  ⟨.bin .sub .other (.tmp 51) (.tmp 52), none, (some 53), [51, 52]⟩,
  ⟨.mv (.tmp 2), none, (some 54), [2]⟩,
  ⟨.mv (.tmp 10), none, (some 55), [10]⟩,
  ⟨.mv (.tmp 4), none, (some 56), [4]⟩,
  ⟨.call 78 [(.tmp 50), (.tmp 53), (.tmp 54), (.tmp 55), (.tmp 56)], none, (some 57), [50, 53, 54, 55, 56]⟩]
def m77 : MFunc := ⟨58, [],
  (.seq (.region m77r0 [0, 2, 3, 4, 10])
  (.seq (.region m77r1 [0, 2, 4, 10, 11])
  (.seq (.block 0 (.loop [0, 2, 4, 10, 11] m77l8))
  (.region m77r9 []))))⟩
def h77 : List RH := [⟨[0, 2, 3, 4, 10], 0, false, []⟩, ⟨[0, 2, 4, 10, 11], 0, false, []⟩, ⟨[0, 2, 4, 10, 11], 0, false, []⟩, ⟨[0, 2, 4, 10, 11, 20], 0, false, []⟩, ⟨[0, 2, 4, 10, 11, 23], 0, false, []⟩, ⟨[0, 2, 4, 10, 11], 0, false, []⟩, ⟨[0, 2, 4, 10, 11], 0, false, []⟩, ⟨[0, 2, 4, 10, 11], 0, false, []⟩, ⟨[0, 2, 4, 10, 11], 0, false, []⟩, ⟨[], 0, false, []⟩]
theorem m77_ok : cmpFn Try.prog 77 h77 = some m77 := by kernel_rfl

/- slices.swapRangeCmpFunc[dialtone/api.Binding] -/
def m78r0 : List MOper := [⟨.mv (.lit (.int .i64 0)), none, (some 10), []⟩]
def m78r1 : List MOper := [⟨.mv (.tmp 10), none, (some 11), [10]⟩,
  ⟨.mv (.tmp 3), none, (some 12), [3]⟩,
  ⟨.bin .lss .other (.tmp 11) (.tmp 12), none, (some 13), [11, 12]⟩]
def m78r2 : List MOper := [⟨.mv (.tmp 0), none, (some 16), [0]⟩,
  ⟨.mv (.tmp 1), none, (some 17), [1]⟩,
  ⟨.mv (.tmp 10), none, (some 18), [10]⟩,
  ⟨.bin .add .other (.tmp 17) (.tmp 18), none, (some 19), [17, 18]⟩,
  ⟨.mv (.tmp 0), none, (some 20), [0]⟩,
  ⟨.mv (.tmp 2), none, (some 21), [2]⟩,
  ⟨.mv (.tmp 10), none, (some 22), [10]⟩,
  ⟨.bin .add .other (.tmp 21) (.tmp 22), none, (some 23), [21, 22]⟩,
  ⟨.mv (.tmp 0), none, (some 24), [0]⟩,
  ⟨.mv (.tmp 2), none, (some 25), [2]⟩,
  ⟨.mv (.tmp 10), none, (some 26), [10]⟩,
  ⟨.bin .add .other (.tmp 25) (.tmp 26), none, (some 27), [25, 26]⟩,
  ⟨.iaddr 10 (.tmp 24) (.tmp 27), none, (some 28), [24, 27]⟩,
  ⟨.load (some 10) (.tmp 28), none, (some 29), [28]⟩,
  ⟨.mv (.tmp 0), none, (some 30), [0]⟩,
  ⟨.mv (.tmp 1), none, (some 31), [1]⟩,
  ⟨.mv (.tmp 10), none, (some 32), [10]⟩,
  ⟨.bin .add .other (.tmp 31) (.tmp 32), none, (some 33), [31, 32]⟩,
  ⟨.iaddr 10 (.tmp 30) (.tmp 33), none, (some 34), [30, 33]⟩,
  ⟨.load (some 10) (.tmp 34), none, (some 35), [34]⟩]
def m78r3 : List MOper := [⟨.iaddr 10 (.tmp 16) (.tmp 19), none, (some 36), [16, 19]⟩,
  ⟨.store 10 (.tmp 36) (.tmp 29), none, none, [36, 29]⟩,
  ⟨.iaddr 10 (.tmp 20) (.tmp 23), none, (some 37), [20, 23]⟩,
  ⟨.store 10 (.tmp 37) (.tmp 35), none, none, [37, 35]⟩]
def m78r4 : List MOper := [⟨.mv (.tmp 10), none, (some 14), [10]⟩,
  ⟨.bin .add .other (.tmp 14) (.lit (.int .i64 1)), none, (some 15), [14]⟩,
  ⟨.mv (.tmp 15), none, (some 10), [15]⟩]
def m78l5 : MCode := (.seq (.seq (.region m78r1 [0, 1, 2, 3, 10, 13])
  (.cond (.tmp 13)
  .skip
  (.exit 0)))
  (.seq (.block 1 (.dregion m78r2 m78r3 [] [0, 1, 2, 3, 10]))
  (.region m78r4 [0, 1, 2, 3, 10])))
def m78 : MFunc := ⟨38, [],
  (.seq (.region m78r0 [0, 1, 2, 3, 10])
  (.block 0 (.loop [0, 1, 2, 3, 10] m78l5)))⟩
def h78 : List RH := [⟨[0, 1, 2, 3, 10], 0, false, []⟩, ⟨[0, 1, 2, 3, 10], 0, false, []⟩, ⟨[0, 1, 2, 3, 10, 13], 0, false, []⟩, ⟨[0, 1, 2, 3, 10], 20, false, []⟩, ⟨[0, 1, 2, 3, 10], 0, false, []⟩]
theorem m78_ok : cmpFn Try.prog 78 h78 = some m78 := by kernel_rfl

end Go.Ab.Try
