/-
  The translated functions of this claim, printed by a program of ours (gen.sh), with the kernel's word that they are the translation.
  Conditions: none.
-/
import Derived.Test.YtjckmpmnomkmlaaDoorJ37Fn
import Derived.Test.YtjckmpmnomkmlaaDoorAbEval
import Derived.KernelRfl
namespace Go.Ab.Tryd.S
open Go.Proofs
/- dialtone/dialtonelaw37.RatingCosts -/
def m3r0 : List MOper := [⟨.box 2 (.tmp 0), none, (some 4), [0]⟩,
  ⟨.mv (.lit (.bool false)), none, (some 8), []⟩]
def m3r1 : List MOper := [⟨.load (some 2) (.tmp 4), none, (some 13), [4]⟩,
  ⟨.call 10 [(.tmp 13)], none, (some 14), [13]⟩,
  ⟨.un .not (.tmp 14), none, (some 15), [14]⟩]
def m3r2 : List MOper := [⟨.call 11 [], none, (some 16), []⟩,
  ⟨.mv (.tmp 16), none, (some 8), [16]⟩]
def m3r3 : List MOper := [⟨.load (some 2) (.tmp 4), none, (some 18), [4]⟩,
  ⟨.mv (.tmp 1), none, (some 19), [1]⟩,
  ⟨.mv (.tmp 2), none, (some 20), [2]⟩,
  ⟨.mv (.tmp 3), none, (some 21), [3]⟩,
  ⟨.call 12 [(.tmp 18), (.tmp 19), (.tmp 20), (.tmp 21)], none, (some 22), [18, 19, 20, 21]⟩,
  ⟨.mv (.tmp 22), none, (some 17), [22]⟩,
  ⟨.ext 0 (.tmp 17), none, (some 23), [17]⟩,
  ⟨.ext 1 (.tmp 17), none, (some 24), [17]⟩,
  ⟨.mv (.tmp 23), none, (some 9), [23]⟩,
  ⟨.mv (.tmp 24), none, (some 10), [24]⟩]
def m3r4 : List MOper := [⟨.load (some 2) (.tmp 4), none, (some 26), [4]⟩,
  ⟨.mv (.tmp 1), none, (some 27), [1]⟩,
  ⟨.mv (.tmp 2), none, (some 28), [2]⟩,
  ⟨.mv (.tmp 3), none, (some 29), [3]⟩,
  ⟨.call 13 [(.tmp 26), (.tmp 27), (.tmp 28), (.tmp 29)], none, (some 30), [26, 27, 28, 29]⟩,
  ⟨.mv (.tmp 30), none, (some 25), [30]⟩,
  ⟨.ext 0 (.tmp 25), none, (some 31), [25]⟩,
  ⟨.ext 1 (.tmp 25), none, (some 32), [25]⟩,
  ⟨.mv (.tmp 31), none, (some 11), [31]⟩,
  ⟨.mv (.tmp 32), none, (some 12), [32]⟩]
def m3r5 : List MOper := [⟨.mv (.tmp 9), none, (some 33), [9]⟩,
  ⟨.mv (.tmp 11), none, (some 34), [11]⟩,
  ⟨.bin .eql .other (.tmp 33) (.tmp 34), none, (some 35), [33, 34]⟩,
  ⟨.mv (.tmp 35), none, (some 36), [35]⟩,
  ⟨.mv (.tmp 10), (some (36, true)), (some 37), [10]⟩,
  ⟨.mv (.tmp 12), (some (36, true)), (some 38), [12]⟩,
  ⟨.bin .eql .other (.tmp 37) (.tmp 38), (some (36, true)), (some 39), [37, 38]⟩,
  ⟨.pick (.tmp 36) (.tmp 39) (.lit (.bool false)), none, (some 40), [36, 39]⟩,
  ⟨.mv (.tmp 40), none, (some 41), [40]⟩,
  ⟨.call 11 [], (some (41, true)), (some 42), []⟩,
  ⟨.pick (.tmp 41) (.tmp 42) (.lit (.bool false)), none, (some 43), [41, 42]⟩,
  ⟨.mv (.tmp 43), none, (some 8), [43]⟩]
def m3 : MFunc := ⟨44, [.tmp 8],
  (.seq (.region m3r0 [1, 2, 3, 4])
  (.seq (.seq (.region m3r1 [1, 2, 3, 4, 15])
  (.cond (.tmp 15)
  (.seq (.region m3r2 [8])
  .ret)
  .skip))
  (.seq (.region m3r3 [1, 2, 3, 4, 9, 10])
  (.seq (.region m3r4 [9, 10, 11, 12])
  (.seq (.region m3r5 [8])
  .ret)))))⟩
def h3 : List RH := [⟨[1, 2, 3, 4], 0, false, []⟩, ⟨[1, 2, 3, 4, 15], 0, false, []⟩, ⟨[8], 0, false, []⟩, ⟨[1, 2, 3, 4, 9, 10], 0, false, []⟩, ⟨[9, 10, 11, 12], 0, false, []⟩, ⟨[8], 0, false, []⟩]
theorem m3_ok : cmpFn Tryd.prog 3 h3 = some m3 := by kernel_rfl

/- dialtone/dialtonelaw37.RatingGrows -/
def m4r0 : List MOper := [⟨.box 2 (.tmp 0), none, (some 4), [0]⟩,
  ⟨.mv (.lit (.bool false)), none, (some 8), []⟩]
def m4r1 : List MOper := [⟨.mv (.tmp 3), none, (some 23), [3]⟩,
  ⟨.conv .i64 (.tmp 23), none, (some 24), [23]⟩,
  ⟨.bin .rem .other (.tmp 24) (.lit (.int .i64 5000)), none, (some 25), [24]⟩,
  ⟨.mv (.tmp 25), none, (some 9), [25]⟩]
def m4r2 : List MOper := [⟨.load (some 2) (.tmp 4), none, (some 26), [4]⟩,
  ⟨.call 10 [(.tmp 26)], none, (some 27), [26]⟩,
  ⟨.un .not (.tmp 27), none, (some 28), [27]⟩,
  ⟨.mv (.tmp 28), none, (some 29), [28]⟩,
  ⟨.load (some 2) (.tmp 4), (some (29, false)), (some 30), [4]⟩,
  ⟨.call 14 [(.tmp 30)], (some (29, false)), (some 31), [30]⟩,
  ⟨.un .not (.tmp 31), (some (29, false)), (some 32), [31]⟩,
  ⟨.pick (.tmp 29) (.lit (.bool true)) (.tmp 32), none, (some 33), [29, 32]⟩,
  ⟨.mv (.tmp 33), none, (some 34), [33]⟩,
  ⟨.mv (.tmp 2), (some (34, false)), (some 35), [2]⟩,
  ⟨.bin .lss .other (.tmp 35) (.lit (.int .i64 0)), (some (34, false)), (some 36), [35]⟩,
  ⟨.pick (.tmp 34) (.lit (.bool true)) (.tmp 36), none, (some 37), [34, 36]⟩,
  ⟨.mv (.tmp 37), none, (some 38), [37]⟩,
  ⟨.mv (.tmp 2), (some (38, false)), (some 39), [2]⟩,
  ⟨.bin .gtr .other (.tmp 39) (.lit (.int .i64 281474966710656)), (some (38, false)), (some 40), [39]⟩,
  ⟨.pick (.tmp 38) (.lit (.bool true)) (.tmp 40), none, (some 41), [38, 40]⟩]
def m4r3 : List MOper := [⟨.call 11 [], none, (some 42), []⟩,
  ⟨.mv (.tmp 42), none, (some 8), [42]⟩]
def m4r4 : List MOper := [⟨.load (some 2) (.tmp 4), none, (some 44), [4]⟩,
  ⟨.mv (.tmp 1), none, (some 45), [1]⟩,
  ⟨.call 15 [(.tmp 44), (.tmp 45)], none, (some 46), [44, 45]⟩,
  ⟨.mv (.tmp 46), none, (some 43), [46]⟩,
  ⟨.ext 0 (.tmp 43), none, (some 47), [43]⟩,
  ⟨.ext 1 (.tmp 43), none, (some 48), [43]⟩,
  ⟨.mv (.tmp 47), none, (some 10), [47]⟩,
  ⟨.mv (.tmp 48), none, (some 11), [48]⟩]
def m4r5 : List MOper := [⟨.load (some 2) (.tmp 4), none, (some 50), [4]⟩,
  ⟨.mv (.tmp 1), none, (some 51), [1]⟩,
  ⟨.mv (.tmp 2), none, (some 52), [2]⟩,
  ⟨.mv (.tmp 2), none, (some 53), [2]⟩,
  ⟨.mv (.tmp 9), none, (some 54), [9]⟩,
  ⟨.bin .mul .other (.lit (.int .i64 1000)) (.tmp 54), none, (some 55), [54]⟩,
  ⟨.bin .add .other (.tmp 53) (.tmp 55), none, (some 56), [53, 55]⟩,
  ⟨.call 12 [(.tmp 50), (.tmp 51), (.tmp 52), (.tmp 56)], none, (some 57), [50, 51, 52, 56]⟩,
  ⟨.mv (.tmp 57), none, (some 49), [57]⟩,
  ⟨.ext 0 (.tmp 49), none, (some 58), [49]⟩,
  ⟨.ext 1 (.tmp 49), none, (some 59), [49]⟩,
  ⟨.mv (.tmp 58), none, (some 12), [58]⟩,
  ⟨.mv (.tmp 59), none, (some 13), [59]⟩]
def m4r6 : List MOper := [⟨.load (some 2) (.tmp 4), none, (some 61), [4]⟩,
  ⟨.mv (.tmp 1), none, (some 62), [1]⟩,
  ⟨.mv (.tmp 2), none, (some 63), [2]⟩,
  ⟨.mv (.tmp 2), none, (some 64), [2]⟩,
  ⟨.mv (.tmp 9), none, (some 65), [9]⟩,
  ⟨.bin .mul .other (.lit (.int .i64 1000)) (.tmp 65), none, (some 66), [65]⟩,
  ⟨.bin .add .other (.tmp 64) (.tmp 66), none, (some 67), [64, 66]⟩,
  ⟨.bin .add .other (.tmp 67) (.lit (.int .i64 1)), none, (some 68), [67]⟩,
  ⟨.call 12 [(.tmp 61), (.tmp 62), (.tmp 63), (.tmp 68)], none, (some 69), [61, 62, 63, 68]⟩,
  ⟨.mv (.tmp 69), none, (some 60), [69]⟩,
  ⟨.ext 0 (.tmp 60), none, (some 70), [60]⟩,
  ⟨.ext 1 (.tmp 60), none, (some 71), [60]⟩,
  ⟨.mv (.tmp 70), none, (some 14), [70]⟩,
  ⟨.mv (.tmp 71), none, (some 15), [71]⟩]
def m4r7 : List MOper := [⟨.load (some 2) (.tmp 4), none, (some 73), [4]⟩,
  ⟨.mv (.tmp 1), none, (some 74), [1]⟩,
  ⟨.mv (.tmp 2), none, (some 75), [2]⟩,
  ⟨.mv (.tmp 2), none, (some 76), [2]⟩,
  ⟨.mv (.tmp 9), none, (some 77), [9]⟩,
  ⟨.bin .mul .other (.lit (.int .i64 1000)) (.tmp 77), none, (some 78), [77]⟩,
  ⟨.bin .add .other (.tmp 76) (.tmp 78), none, (some 79), [76, 78]⟩,
  ⟨.bin .add .other (.tmp 79) (.lit (.int .i64 1000)), none, (some 80), [79]⟩,
  ⟨.call 12 [(.tmp 73), (.tmp 74), (.tmp 75), (.tmp 80)], none, (some 81), [73, 74, 75, 80]⟩,
  ⟨.mv (.tmp 81), none, (some 72), [81]⟩,
  ⟨.ext 0 (.tmp 72), none, (some 82), [72]⟩,
  ⟨.ext 1 (.tmp 72), none, (some 83), [72]⟩,
  ⟨.mv (.tmp 82), none, (some 16), [82]⟩,
  ⟨.mv (.tmp 83), none, (some 17), [83]⟩]
def m4r8 : List MOper := [⟨.mv (.tmp 11), none, (some 84), [11]⟩,
  ⟨.un .not (.tmp 84), none, (some 85), [84]⟩]
def m4r9 : List MOper := [⟨.mv (.tmp 13), none, (some 86), [13]⟩,
  ⟨.bin .eql .other (.tmp 86) (.lit (.int .u8 8)), none, (some 87), [86]⟩,
  ⟨.mv (.tmp 87), none, (some 88), [87]⟩,
  ⟨.mv (.tmp 15), (some (88, true)), (some 89), [15]⟩,
  ⟨.bin .eql .other (.tmp 89) (.lit (.int .u8 8)), (some (88, true)), (some 90), [89]⟩,
  ⟨.pick (.tmp 88) (.tmp 90) (.lit (.bool false)), none, (some 91), [88, 90]⟩,
  ⟨.mv (.tmp 91), none, (some 92), [91]⟩,
  ⟨.mv (.tmp 17), (some (92, true)), (some 93), [17]⟩,
  ⟨.bin .eql .other (.tmp 93) (.lit (.int .u8 8)), (some (92, true)), (some 94), [93]⟩,
  ⟨.pick (.tmp 92) (.tmp 94) (.lit (.bool false)), none, (some 95), [92, 94]⟩,
  ⟨.mv (.tmp 95), none, (some 96), [95]⟩,
  ⟨.call 11 [], (some (96, true)), (some 97), []⟩,
  ⟨.pick (.tmp 96) (.tmp 97) (.lit (.bool false)), none, (some 98), [96, 97]⟩,
  ⟨.mv (.tmp 98), none, (some 8), [98]⟩]
def m4r10 : List MOper := [⟨.faddr 0 (.tmp 4), none, (some 99), [4]⟩,
  ⟨.load none (.tmp 99), none, (some 100), [99]⟩,
  ⟨.mv (.tmp 10), none, (some 101), [10]⟩,
  ⟨.iaddr 5 (.tmp 100) (.tmp 101), none, (some 102), [100, 101]⟩,
  ⟨.load (some 5) (.tmp 102), none, (some 103), [102]⟩,
  ⟨.zbox [(.str []), (.int .i64 0), (.int .i64 0), (.int .i64 0), .nils], none, (some 18), []⟩,
  ⟨.store 5 (.tmp 18) (.tmp 103), none, none, [18, 103]⟩]
def m4r11 : List MOper := [⟨.mv (.lit (.int .i64 0)), none, (some 19), []⟩]
def m4r12 : List MOper := [⟨.mv (.tmp 9), none, (some 104), [9]⟩,
  ⟨.faddr 1 (.tmp 4), none, (some 105), [4]⟩,
  ⟨.load none (.tmp 105), none, (some 106), [105]⟩,
  ⟨.bin .sub .other (.tmp 104) (.tmp 106), none, (some 107), [104, 106]⟩,
  ⟨.faddr 2 (.tmp 18), none, (some 108), [18]⟩,
  ⟨.load none (.tmp 108), none, (some 109), [108]⟩,
  ⟨.bin .sub .other (.tmp 107) (.tmp 109), none, (some 110), [107, 109]⟩,
  ⟨.mv (.tmp 110), none, (some 20), [110]⟩]
def m4r13 : List MOper := [⟨.load (some 5) (.tmp 18), none, (some 112), [18]⟩,
  ⟨.mv (.tmp 2), none, (some 113), [2]⟩,
  ⟨.mv (.tmp 9), none, (some 114), [9]⟩,
  ⟨.bin .mul .other (.lit (.int .i64 1000)) (.tmp 114), none, (some 115), [114]⟩,
  ⟨.bin .add .other (.tmp 113) (.tmp 115), none, (some 116), [113, 115]⟩,
  ⟨.call 16 [(.tmp 112), (.tmp 116)], none, (some 117), [112, 116]⟩,
  ⟨.mv (.tmp 117), none, (some 111), [117]⟩,
  ⟨.ext 0 (.tmp 111), none, (some 118), [111]⟩,
  ⟨.ext 1 (.tmp 111), none, (some 119), [111]⟩,
  ⟨.mv (.tmp 118), none, (some 21), [118]⟩,
  ⟨.mv (.tmp 119), none, (some 22), [119]⟩]
def m4r14 : List MOper := [⟨.mv (.tmp 9), none, (some 120), [9]⟩,
  ⟨.faddr 1 (.tmp 4), none, (some 121), [4]⟩,
  ⟨.load none (.tmp 121), none, (some 122), [121]⟩,
  ⟨.bin .eql .other (.tmp 120) (.tmp 122), none, (some 123), [120, 122]⟩]
def m4r15 : List MOper := [⟨.faddr 1 (.tmp 18), none, (some 124), [18]⟩,
  ⟨.load none (.tmp 124), none, (some 125), [124]⟩,
  ⟨.faddr 4 (.tmp 18), none, (some 126), [18]⟩,
  ⟨.load none (.tmp 126), none, (some 127), [126]⟩]
def m4r16 : List MOper := [⟨.mv (.tmp 21), none, (some 128), [21]⟩,
  ⟨.iaddr 5 (.tmp 127) (.tmp 128), none, (some 129), [127, 128]⟩,
  ⟨.faddr 3 (.tmp 129), none, (some 130), [129]⟩,
  ⟨.load none (.tmp 130), none, (some 131), [130]⟩,
  ⟨.bin .add .other (.tmp 125) (.tmp 131), none, (some 132), [125, 131]⟩,
  ⟨.mv (.tmp 132), none, (some 19), [132]⟩]
def m4r17 : List MOper := [⟨.load none (.tmp 124), none, (some 125), [124]⟩,
  ⟨.load none (.tmp 126), none, (some 127), [126]⟩]
def m4r18 : List MOper := [⟨.load none (.tmp 124), none, (some 125), [124]⟩,
  ⟨.load none (.tmp 126), none, (some 127), [126]⟩]
def m4r19 : List MOper := [⟨.load none (.tmp 124), none, (some 125), [124]⟩]
def m4r20 : List MOper := [⟨.load none (.tmp 124), none, (some 125), [124]⟩]
def m4r21 : List MOper := [⟨.load none (.tmp 124), none, (some 125), [124]⟩]
def m4r22 : List MOper := [⟨.mv (.tmp 20), none, (some 133), [20]⟩,
  ⟨.bin .geq .other (.tmp 133) (.lit (.int .i64 0)), none, (some 134), [133]⟩,
  ⟨.mv (.tmp 134), none, (some 135), [134]⟩,
  ⟨.mv (.tmp 20), (some (135, true)), (some 136), [20]⟩,
  ⟨.faddr 3 (.tmp 18), (some (135, true)), (some 137), [18]⟩,
  ⟨.load none (.tmp 137), (some (135, true)), (some 138), [137]⟩,
  ⟨.bin .rem .other (.tmp 136) (.tmp 138), (some (135, true)), (some 139), [136, 138]⟩,
  ⟨.bin .eql .other (.tmp 139) (.lit (.int .i64 0)), (some (135, true)), (some 140), [139]⟩,
  ⟨.pick (.tmp 135) (.tmp 140) (.lit (.bool false)), none, (some 141), [135, 140]⟩]
def m4r23 : List MOper := [⟨.faddr 4 (.tmp 18), none, (some 142), [18]⟩,
  ⟨.load none (.tmp 142), none, (some 143), [142]⟩,
  ⟨.mv (.tmp 21), none, (some 144), [21]⟩,
  ⟨.iaddr 5 (.tmp 143) (.tmp 144), none, (some 145), [143, 144]⟩,
  ⟨.faddr 4 (.tmp 145), none, (some 146), [145]⟩,
  ⟨.load none (.tmp 146), none, (some 147), [146]⟩,
  ⟨.mv (.tmp 147), none, (some 19), [147]⟩]
def m4r24 : List MOper := [⟨.mv (.tmp 13), none, (some 148), [13]⟩,
  ⟨.bin .eql .other (.tmp 148) (.lit (.int .u8 0)), none, (some 149), [148]⟩,
  ⟨.mv (.tmp 149), none, (some 150), [149]⟩,
  ⟨.mv (.tmp 15), (some (150, true)), (some 151), [15]⟩,
  ⟨.bin .eql .other (.tmp 151) (.lit (.int .u8 0)), (some (150, true)), (some 152), [151]⟩,
  ⟨.pick (.tmp 150) (.tmp 152) (.lit (.bool false)), none, (some 153), [150, 152]⟩,
  ⟨.mv (.tmp 153), none, (some 154), [153]⟩,
  ⟨.mv (.tmp 17), (some (154, true)), (some 155), [17]⟩,
  ⟨.bin .eql .other (.tmp 155) (.lit (.int .u8 0)), (some (154, true)), (some 156), [155]⟩,
  ⟨.pick (.tmp 154) (.tmp 156) (.lit (.bool false)), none, (some 157), [154, 156]⟩,
  ⟨.mv (.tmp 157), none, (some 158), [157]⟩,
  ⟨.mv (.tmp 14), (some (158, true)), (some 159), [14]⟩,
  ⟨.mv (.tmp 12), (some (158, true)), (some 160), [12]⟩,
  ⟨.mv (.tmp 19), (some (158, true)), (some 161), [19]⟩,
  ⟨.bin .add .other (.tmp 160) (.tmp 161), (some (158, true)), (some 162), [160, 161]⟩,
  ⟨.bin .eql .other (.tmp 159) (.tmp 162), (some (158, true)), (some 163), [159, 162]⟩,
  ⟨.pick (.tmp 158) (.tmp 163) (.lit (.bool false)), none, (some 164), [158, 163]⟩,
  ⟨.mv (.tmp 164), none, (some 165), [164]⟩,
  ⟨.mv (.tmp 16), (some (165, true)), (some 166), [16]⟩,
  ⟨.mv (.tmp 14), (some (165, true)), (some 167), [14]⟩,
  ⟨.bin .eql .other (.tmp 166) (.tmp 167), (some (165, true)), (some 168), [166, 167]⟩,
  ⟨.pick (.tmp 165) (.tmp 168) (.lit (.bool false)), none, (some 169), [165, 168]⟩,
  ⟨.mv (.tmp 169), none, (some 170), [169]⟩,
  ⟨.call 11 [], (some (170, true)), (some 171), []⟩,
  ⟨.pick (.tmp 170) (.tmp 171) (.lit (.bool false)), none, (some 172), [170, 171]⟩,
  ⟨.mv (.tmp 172), none, (some 8), [172]⟩]
def m4 : MFunc := ⟨173, [.tmp 8],
  (.seq (.region m4r0 [1, 2, 3, 4])
  (.seq (.region m4r1 [1, 2, 4, 9])
  (.seq (.seq (.region m4r2 [1, 2, 4, 9, 41])
  (.cond (.tmp 41)
  (.seq (.region m4r3 [8])
  .ret)
  .skip))
  (.seq (.region m4r4 [1, 2, 4, 9, 10, 11])
  (.seq (.region m4r5 [1, 2, 4, 9, 10, 11, 12, 13])
  (.seq (.region m4r6 [1, 2, 4, 9, 10, 11, 12, 13, 14, 15])
  (.seq (.region m4r7 [2, 4, 9, 10, 11, 12, 13, 14, 15, 16, 17])
  (.seq (.seq (.region m4r8 [2, 4, 9, 10, 12, 13, 14, 15, 16, 17, 85])
  (.cond (.tmp 85)
  (.seq (.region m4r9 [8])
  .ret)
  .skip))
  (.seq (.region m4r10 [2, 4, 9, 12, 13, 14, 15, 16, 17, 18])
  (.seq (.region m4r11 [2, 4, 9, 12, 13, 14, 15, 16, 17, 18, 19])
  (.seq (.region m4r12 [2, 4, 9, 12, 13, 14, 15, 16, 17, 18, 19, 20])
  (.seq (.region m4r13 [4, 9, 12, 13, 14, 15, 16, 17, 18, 19, 20, 21])
  (.seq (.seq (.region m4r14 [12, 13, 14, 15, 16, 17, 18, 19, 20, 21, 123])
  (.cond (.tmp 123)
  (.dregion m4r15 m4r16 [m4r17, m4r18, m4r19, m4r20, m4r21, [], []] [12, 13, 14, 15, 16, 17, 19])
  (.seq (.region m4r22 [12, 13, 14, 15, 16, 17, 18, 19, 21, 141])
  (.cond (.tmp 141)
  (.region m4r23 [12, 13, 14, 15, 16, 17, 19])
  .skip))))
  (.seq (.region m4r24 [8])
  .ret))))))))))))))⟩
def h4 : List RH := [⟨[1, 2, 3, 4], 0, false, []⟩, ⟨[1, 2, 4, 9], 0, false, []⟩, ⟨[1, 2, 4, 9, 41], 0, false, []⟩, ⟨[8], 0, false, []⟩, ⟨[1, 2, 4, 9, 10, 11], 0, false, []⟩, ⟨[1, 2, 4, 9, 10, 11, 12, 13], 0, false, []⟩, ⟨[1, 2, 4, 9, 10, 11, 12, 13, 14, 15], 0, false, []⟩, ⟨[2, 4, 9, 10, 11, 12, 13, 14, 15, 16, 17], 0, false, []⟩, ⟨[2, 4, 9, 10, 12, 13, 14, 15, 16, 17, 85], 0, false, []⟩, ⟨[8], 0, false, []⟩, ⟨[2, 4, 9, 12, 13, 14, 15, 16, 17, 18], 0, false, []⟩, ⟨[2, 4, 9, 12, 13, 14, 15, 16, 17, 18, 19], 0, false, []⟩, ⟨[2, 4, 9, 12, 13, 14, 15, 16, 17, 18, 19, 20], 0, false, []⟩, ⟨[4, 9, 12, 13, 14, 15, 16, 17, 18, 19, 20, 21], 0, false, []⟩, ⟨[12, 13, 14, 15, 16, 17, 18, 19, 20, 21, 123], 0, false, []⟩, ⟨[12, 13, 14, 15, 16, 17, 19], 4, false, []⟩, ⟨[12, 13, 14, 15, 16, 17, 18, 19, 21, 141], 0, false, []⟩, ⟨[12, 13, 14, 15, 16, 17, 19], 0, false, []⟩, ⟨[8], 0, false, []⟩]
theorem m4_ok : cmpFn Tryd.prog 4 h4 = some m4 := by kernel_rfl

/- dialtone/dialtonelaw37.RatingFlat -/
def m5r0 : List MOper := [⟨.box 5 (.tmp 0), none, (some 4), [0]⟩,
  ⟨.mv (.lit (.bool false)), none, (some 8), []⟩]
def m5r1 : List MOper := [⟨.faddr 4 (.tmp 4), none, (some 15), [4]⟩,
  ⟨.load none (.tmp 15), none, (some 16), [15]⟩,
  ⟨.len 1 (.tmp 16), none, (some 17), [16]⟩,
  ⟨.bin .gtr .other (.tmp 17) (.lit (.int .i64 1)), none, (some 18), [17]⟩,
  ⟨.mv (.tmp 18), none, (some 19), [18]⟩,
  ⟨.faddr 4 (.tmp 4), (some (19, true)), (some 20), [4]⟩,
  ⟨.load none (.tmp 20), (some (19, true)), (some 21), [20]⟩,
  ⟨.len 1 (.tmp 21), (some (19, true)), (some 22), [21]⟩,
  ⟨.bin .lss .other (.tmp 22) (.lit (.int .i64 40)), (some (19, true)), (some 23), [22]⟩,
  ⟨.pick (.tmp 19) (.tmp 23) (.lit (.bool false)), none, (some 24), [19, 23]⟩]
def m5r2 : List MOper := [⟨.faddr 4 (.tmp 4), none, (some 25), [4]⟩,
  ⟨.load none (.tmp 25), none, (some 26), [25]⟩,
  ⟨.faddr 4 (.tmp 4), none, (some 27), [4]⟩,
  ⟨.load none (.tmp 27), none, (some 28), [27]⟩,
  ⟨.len 1 (.tmp 28), none, (some 29), [28]⟩,
  ⟨.bin .sub .other (.tmp 29) (.lit (.int .i64 1)), none, (some 30), [29]⟩,
  ⟨.slc 5 (.tmp 26) (some (.tmp 30)) none none, none, (some 31), [26, 30]⟩,
  ⟨.faddr 4 (.tmp 4), none, (some 32), [4]⟩,
  ⟨.store 1 (.tmp 32) (.tmp 31), none, none, [32, 31]⟩]
def m5r3 : List MOper := [⟨.load (some 5) (.tmp 4), none, (some 33), [4]⟩,
  ⟨.mkslice [(.str []), (.int .i64 0), (.int .i64 0), (.int .i64 0), .nils] 1 [(0, (.tmp 33))], none, (some 34), [33]⟩,
  ⟨.mv (.tmp 1), none, (some 35), [1]⟩,
  ⟨.conv .i64 (.tmp 35), none, (some 36), [35]⟩,
  ⟨.bin .rem .other (.tmp 36) (.lit (.int .i64 3601)), none, (some 37), [36]⟩,
  ⟨.build [.nils, (.int .i64 0)] [(0, 1, (.tmp 34)), (1, 1, (.tmp 37))], none, (some 38), [34, 37]⟩,
  ⟨.zbox [.nils, (.int .i64 0)], none, (some 9), []⟩,
  ⟨.store 2 (.tmp 9) (.tmp 38), none, none, [9, 38]⟩]
def m5r4 : List MOper := [⟨.mv (.tmp 3), none, (some 39), [3]⟩,
  ⟨.conv .i64 (.tmp 39), none, (some 40), [39]⟩,
  ⟨.bin .rem .other (.tmp 40) (.lit (.int .i64 100001)), none, (some 41), [40]⟩,
  ⟨.mv (.tmp 41), none, (some 10), [41]⟩]
def m5r5 : List MOper := [⟨.load (some 2) (.tmp 9), none, (some 42), [9]⟩,
  ⟨.call 10 [(.tmp 42)], none, (some 43), [42]⟩,
  ⟨.un .not (.tmp 43), none, (some 44), [43]⟩,
  ⟨.mv (.tmp 44), none, (some 45), [44]⟩,
  ⟨.load (some 2) (.tmp 9), (some (45, false)), (some 46), [9]⟩,
  ⟨.call 14 [(.tmp 46)], (some (45, false)), (some 47), [46]⟩,
  ⟨.un .not (.tmp 47), (some (45, false)), (some 48), [47]⟩,
  ⟨.pick (.tmp 45) (.lit (.bool true)) (.tmp 48), none, (some 49), [45, 48]⟩,
  ⟨.mv (.tmp 49), none, (some 50), [49]⟩,
  ⟨.mv (.tmp 2), (some (50, false)), (some 51), [2]⟩,
  ⟨.bin .lss .other (.tmp 51) (.lit (.int .i64 0)), (some (50, false)), (some 52), [51]⟩,
  ⟨.pick (.tmp 50) (.lit (.bool true)) (.tmp 52), none, (some 53), [50, 52]⟩,
  ⟨.mv (.tmp 53), none, (some 54), [53]⟩,
  ⟨.mv (.tmp 2), (some (54, false)), (some 55), [2]⟩,
  ⟨.bin .gtr .other (.tmp 55) (.lit (.int .i64 281474866710656)), (some (54, false)), (some 56), [55]⟩,
  ⟨.pick (.tmp 54) (.lit (.bool true)) (.tmp 56), none, (some 57), [54, 56]⟩]
def m5r6 : List MOper := [⟨.call 11 [], none, (some 58), []⟩,
  ⟨.mv (.tmp 58), none, (some 8), [58]⟩]
def m5r7 : List MOper := [⟨.load (some 2) (.tmp 9), none, (some 60), [9]⟩,
  ⟨.faddr 0 (.tmp 4), none, (some 61), [4]⟩,
  ⟨.load none (.tmp 61), none, (some 62), [61]⟩,
  ⟨.mv (.tmp 2), none, (some 63), [2]⟩,
  ⟨.mv (.tmp 2), none, (some 64), [2]⟩,
  ⟨.mv (.tmp 10), none, (some 65), [10]⟩,
  ⟨.bin .mul .other (.lit (.int .i64 1000)) (.tmp 65), none, (some 66), [65]⟩,
  ⟨.bin .add .other (.tmp 64) (.tmp 66), none, (some 67), [64, 66]⟩,
  ⟨.call 12 [(.tmp 60), (.tmp 62), (.tmp 63), (.tmp 67)], none, (some 68), [60, 62, 63, 67]⟩,
  ⟨.mv (.tmp 68), none, (some 59), [68]⟩,
  ⟨.ext 0 (.tmp 59), none, (some 69), [59]⟩,
  ⟨.ext 1 (.tmp 59), none, (some 70), [59]⟩,
  ⟨.mv (.tmp 69), none, (some 11), [69]⟩,
  ⟨.mv (.tmp 70), none, (some 12), [70]⟩]
def m5r8 : List MOper := [⟨.mv (.lit (.int .i64 0)), none, (some 13), []⟩]
def m5r9 : List MOper := [⟨.mv (.tmp 10), none, (some 71), [10]⟩,
  ⟨.faddr 1 (.tmp 9), none, (some 72), [9]⟩,
  ⟨.load none (.tmp 72), none, (some 73), [72]⟩,
  ⟨.bin .gtr .other (.tmp 71) (.tmp 73), none, (some 74), [71, 73]⟩]
def m5r10 : List MOper := [⟨.faddr 1 (.tmp 4), none, (some 75), [4]⟩,
  ⟨.load none (.tmp 75), none, (some 76), [75]⟩]
def m5r11 : List MOper := [⟨.faddr 4 (.tmp 4), none, (some 77), [4]⟩,
  ⟨.load none (.tmp 77), none, (some 78), [77]⟩,
  ⟨.iaddr 5 (.tmp 78) (.lit (.int .i64 0)), none, (some 79), [78]⟩,
  ⟨.faddr 3 (.tmp 79), none, (some 80), [79]⟩,
  ⟨.load none (.tmp 80), none, (some 81), [80]⟩,
  ⟨.bin .add .other (.tmp 76) (.tmp 81), none, (some 82), [76, 81]⟩,
  ⟨.mv (.tmp 82), none, (some 13), [82]⟩]
def m5r12 : List MOper := [⟨.load none (.tmp 75), none, (some 76), [75]⟩]
def m5r13 : List MOper := [⟨.load none (.tmp 75), none, (some 76), [75]⟩]
def m5r14 : List MOper := [⟨.load none (.tmp 75), none, (some 76), [75]⟩]
def m5r15 : List MOper := [⟨.load none (.tmp 75), none, (some 76), [75]⟩]
def m5r16 : List MOper := [⟨.load none (.tmp 75), none, (some 76), [75]⟩]
def m5r17 : List MOper := [⟨.load none (.tmp 75), none, (some 76), [75]⟩]
def m5r18 : List MOper := [⟨.mv (.tmp 10), none, (some 83), [10]⟩,
  ⟨.faddr 1 (.tmp 9), none, (some 84), [9]⟩,
  ⟨.load none (.tmp 84), none, (some 85), [84]⟩,
  ⟨.bin .sub .other (.tmp 83) (.tmp 85), none, (some 86), [83, 85]⟩,
  ⟨.faddr 2 (.tmp 4), none, (some 87), [4]⟩,
  ⟨.load none (.tmp 87), none, (some 88), [87]⟩,
  ⟨.bin .sub .other (.tmp 86) (.tmp 88), none, (some 89), [86, 88]⟩,
  ⟨.mv (.tmp 89), none, (some 14), [89]⟩]
def m5r19 : List MOper := [⟨.mv (.tmp 14), none, (some 90), [14]⟩,
  ⟨.bin .gtr .other (.tmp 90) (.lit (.int .i64 0)), none, (some 91), [90]⟩]
def m5r20 : List MOper := [⟨.mv (.tmp 13), none, (some 92), [13]⟩,
  ⟨.faddr 4 (.tmp 4), none, (some 93), [4]⟩,
  ⟨.load none (.tmp 93), none, (some 94), [93]⟩,
  ⟨.iaddr 5 (.tmp 94) (.lit (.int .i64 0)), none, (some 95), [94]⟩,
  ⟨.faddr 4 (.tmp 95), none, (some 96), [95]⟩,
  ⟨.load none (.tmp 96), none, (some 97), [96]⟩,
  ⟨.mv (.tmp 14), none, (some 98), [14]⟩,
  ⟨.faddr 3 (.tmp 4), none, (some 99), [4]⟩,
  ⟨.load none (.tmp 99), none, (some 100), [99]⟩,
  ⟨.bin .add .other (.tmp 98) (.tmp 100), none, (some 101), [98, 100]⟩,
  ⟨.bin .sub .other (.tmp 101) (.lit (.int .i64 1)), none, (some 102), [101]⟩,
  ⟨.faddr 3 (.tmp 4), none, (some 103), [4]⟩,
  ⟨.load none (.tmp 103), none, (some 104), [103]⟩,
  ⟨.bin .quo .other (.tmp 102) (.tmp 104), none, (some 105), [102, 104]⟩]
def m5r21 : List MOper := [⟨.bin .mul .other (.tmp 97) (.tmp 105), none, (some 106), [97, 105]⟩,
  ⟨.bin .add .other (.tmp 92) (.tmp 106), none, (some 107), [92, 106]⟩,
  ⟨.mv (.tmp 107), none, (some 13), [107]⟩]
def m5r22 : List MOper := [⟨.mv (.tmp 12), none, (some 108), [12]⟩,
  ⟨.bin .eql .other (.tmp 108) (.lit (.int .u8 0)), none, (some 109), [108]⟩,
  ⟨.mv (.tmp 109), none, (some 110), [109]⟩,
  ⟨.mv (.tmp 11), (some (110, true)), (some 111), [11]⟩,
  ⟨.mv (.tmp 13), (some (110, true)), (some 112), [13]⟩,
  ⟨.bin .eql .other (.tmp 111) (.tmp 112), (some (110, true)), (some 113), [111, 112]⟩,
  ⟨.pick (.tmp 110) (.tmp 113) (.lit (.bool false)), none, (some 114), [110, 113]⟩,
  ⟨.mv (.tmp 114), none, (some 115), [114]⟩,
  ⟨.call 11 [], (some (115, true)), (some 116), []⟩,
  ⟨.pick (.tmp 115) (.tmp 116) (.lit (.bool false)), none, (some 117), [115, 116]⟩,
  ⟨.mv (.tmp 117), none, (some 8), [117]⟩]
def m5 : MFunc := ⟨118, [.tmp 8],
  (.seq (.region m5r0 [1, 2, 3, 4])
  (.seq (.seq (.region m5r1 [1, 2, 3, 4, 24])
  (.cond (.tmp 24)
  (.region m5r2 [1, 2, 3, 4])
  .skip))
  (.seq (.region m5r3 [2, 3, 4, 9])
  (.seq (.region m5r4 [2, 4, 9, 10])
  (.seq (.seq (.region m5r5 [2, 4, 9, 10, 57])
  (.cond (.tmp 57)
  (.seq (.region m5r6 [8])
  .ret)
  .skip))
  (.seq (.region m5r7 [4, 9, 10, 11, 12])
  (.seq (.region m5r8 [4, 9, 10, 11, 12, 13])
  (.seq (.seq (.region m5r9 [4, 9, 10, 11, 12, 13, 74])
  (.cond (.tmp 74)
  (.seq (.dregion m5r10 m5r11 [m5r12, m5r13, m5r14, m5r15, m5r16, m5r17, [], []] [4, 9, 10, 11, 12, 13])
  (.seq (.region m5r18 [4, 11, 12, 13, 14])
  (.seq (.region m5r19 [4, 11, 12, 13, 14, 91])
  (.cond (.tmp 91)
  (.dregion m5r20 m5r21 [] [11, 12, 13])
  .skip))))
  .skip))
  (.seq (.region m5r22 [8])
  .ret)))))))))⟩
def h5 : List RH := [⟨[1, 2, 3, 4], 0, false, []⟩, ⟨[1, 2, 3, 4, 24], 0, false, []⟩, ⟨[1, 2, 3, 4], 0, false, []⟩, ⟨[2, 3, 4, 9], 0, false, []⟩, ⟨[2, 4, 9, 10], 0, false, []⟩, ⟨[2, 4, 9, 10, 57], 0, false, []⟩, ⟨[8], 0, false, []⟩, ⟨[4, 9, 10, 11, 12], 0, false, []⟩, ⟨[4, 9, 10, 11, 12, 13], 0, false, []⟩, ⟨[4, 9, 10, 11, 12, 13, 74], 0, false, []⟩, ⟨[4, 9, 10, 11, 12, 13], 2, false, []⟩, ⟨[4, 11, 12, 13, 14], 0, false, []⟩, ⟨[4, 11, 12, 13, 14, 91], 0, false, []⟩, ⟨[11, 12, 13], 14, false, []⟩, ⟨[8], 0, false, []⟩]
theorem m5_ok : cmpFn Tryd.prog 5 h5 = some m5 := by kernel_rfl

/- dialtone/dialtonelaw37.RatingTimes -/
def m6r0 : List MOper := [⟨.box 5 (.tmp 2), none, (some 6), [2]⟩,
  ⟨.mv (.lit (.bool false)), none, (some 8), []⟩]
def m6r1 : List MOper := [⟨.load (some 5) (.tmp 6), none, (some 13), [6]⟩,
  ⟨.mkslice [(.str []), (.int .i64 0), (.int .i64 0), (.int .i64 0), .nils] 1 [(0, (.tmp 13))], none, (some 14), [13]⟩,
  ⟨.build [.nils, (.int .i64 0)] [(0, 1, (.tmp 14))], none, (some 15), [14]⟩,
  ⟨.call 10 [(.tmp 15)], none, (some 16), [15]⟩,
  ⟨.un .not (.tmp 16), none, (some 17), [16]⟩]
def m6r2 : List MOper := [⟨.call 11 [], none, (some 18), []⟩,
  ⟨.mv (.tmp 18), none, (some 8), [18]⟩]
def m6r3 : List MOper := [⟨.load (some 5) (.tmp 6), none, (some 20), [6]⟩,
  ⟨.mv (.tmp 3), none, (some 21), [3]⟩,
  ⟨.call 17 [(.tmp 20), (.tmp 21)], none, (some 22), [20, 21]⟩,
  ⟨.mv (.tmp 22), none, (some 19), [22]⟩,
  ⟨.ext 0 (.tmp 19), none, (some 23), [19]⟩,
  ⟨.ext 1 (.tmp 19), none, (some 24), [19]⟩,
  ⟨.mv (.tmp 23), none, (some 9), [23]⟩,
  ⟨.mv (.tmp 24), none, (some 10), [24]⟩]
def m6r4 : List MOper := [⟨.load (some 5) (.tmp 6), none, (some 26), [6]⟩,
  ⟨.mv (.tmp 3), none, (some 27), [3]⟩,
  ⟨.call 16 [(.tmp 26), (.tmp 27)], none, (some 28), [26, 27]⟩,
  ⟨.mv (.tmp 28), none, (some 25), [28]⟩,
  ⟨.ext 0 (.tmp 25), none, (some 29), [25]⟩,
  ⟨.ext 1 (.tmp 25), none, (some 30), [25]⟩,
  ⟨.mv (.tmp 29), none, (some 11), [29]⟩,
  ⟨.mv (.tmp 30), none, (some 12), [30]⟩]
def m6r5 : List MOper := [⟨.mv (.tmp 0), none, (some 31), [0]⟩,
  ⟨.mv (.tmp 1), none, (some 32), [1]⟩,
  ⟨.call 18 [(.tmp 31), (.tmp 32)], none, (some 33), [31, 32]⟩,
  ⟨.mv (.tmp 0), none, (some 34), [0]⟩,
  ⟨.mv (.tmp 1), none, (some 35), [1]⟩,
  ⟨.call 19 [(.tmp 34), (.tmp 35)], none, (some 36), [34, 35]⟩,
  ⟨.bin .eql .other (.tmp 33) (.tmp 36), none, (some 37), [33, 36]⟩,
  ⟨.mv (.tmp 37), none, (some 38), [37]⟩,
  ⟨.mv (.tmp 9), (some (38, true)), (some 39), [9]⟩,
  ⟨.mv (.tmp 11), (some (38, true)), (some 40), [11]⟩,
  ⟨.bin .eql .other (.tmp 39) (.tmp 40), (some (38, true)), (some 41), [39, 40]⟩,
  ⟨.pick (.tmp 38) (.tmp 41) (.lit (.bool false)), none, (some 42), [38, 41]⟩,
  ⟨.mv (.tmp 42), none, (some 43), [42]⟩,
  ⟨.mv (.tmp 10), (some (43, true)), (some 44), [10]⟩,
  ⟨.mv (.tmp 12), (some (43, true)), (some 45), [12]⟩,
  ⟨.bin .eql .bool (.tmp 44) (.tmp 45), (some (43, true)), (some 46), [44, 45]⟩,
  ⟨.pick (.tmp 43) (.tmp 46) (.lit (.bool false)), none, (some 47), [43, 46]⟩,
  ⟨.mv (.tmp 47), none, (some 48), [47]⟩,
  ⟨.call 11 [], (some (48, true)), (some 49), []⟩,
  ⟨.pick (.tmp 48) (.tmp 49) (.lit (.bool false)), none, (some 50), [48, 49]⟩,
  ⟨.mv (.tmp 50), none, (some 8), [50]⟩]
def m6 : MFunc := ⟨51, [.tmp 8],
  (.seq (.region m6r0 [0, 1, 3, 6])
  (.seq (.seq (.region m6r1 [0, 1, 3, 6, 17])
  (.cond (.tmp 17)
  (.seq (.region m6r2 [8])
  .ret)
  .skip))
  (.seq (.region m6r3 [0, 1, 3, 6, 9, 10])
  (.seq (.region m6r4 [0, 1, 9, 10, 11, 12])
  (.seq (.region m6r5 [8])
  .ret)))))⟩
def h6 : List RH := [⟨[0, 1, 3, 6], 0, false, []⟩, ⟨[0, 1, 3, 6, 17], 0, false, []⟩, ⟨[8], 0, false, []⟩, ⟨[0, 1, 3, 6, 9, 10], 0, false, []⟩, ⟨[0, 1, 9, 10, 11, 12], 0, false, []⟩, ⟨[8], 0, false, []⟩]
theorem m6_ok : cmpFn Tryd.prog 6 h6 = some m6 := by kernel_rfl

/- dialtone/dialtonelaw37.RatingPieces -/
def m7r0 : List MOper := [⟨.box 5 (.tmp 0), none, (some 3), [0]⟩,
  ⟨.mv (.lit (.bool false)), none, (some 6), []⟩]
def m7r1 : List MOper := [⟨.load (some 5) (.tmp 3), none, (some 7), [3]⟩,
  ⟨.mkslice [(.str []), (.int .i64 0), (.int .i64 0), (.int .i64 0), .nils] 1 [(0, (.tmp 7))], none, (some 8), [7]⟩,
  ⟨.build [.nils, (.int .i64 0)] [(0, 1, (.tmp 8))], none, (some 9), [8]⟩,
  ⟨.call 10 [(.tmp 9)], none, (some 10), [9]⟩,
  ⟨.un .not (.tmp 10), none, (some 11), [10]⟩]
def m7r2 : List MOper := [⟨.call 11 [], none, (some 12), []⟩,
  ⟨.mv (.tmp 12), none, (some 6), [12]⟩]
def m7r3 : List MOper := [⟨.load (some 5) (.tmp 3), none, (some 13), [3]⟩,
  ⟨.mv (.tmp 1), none, (some 14), [1]⟩,
  ⟨.mv (.tmp 2), none, (some 15), [2]⟩,
  ⟨.load (some 5) (.tmp 3), none, (some 17), [3]⟩,
  ⟨.mv (.tmp 1), none, (some 18), [1]⟩,
  ⟨.mv (.tmp 2), none, (some 19), [2]⟩]
def m7r4 : List MOper := [⟨.call 20 [(.tmp 13), (.tmp 14), (.tmp 15)], none, (some 16), [13, 14, 15]⟩,
  ⟨.call 21 [(.tmp 17), (.tmp 18), (.tmp 19)], none, (some 20), [17, 18, 19]⟩,
  ⟨.bin .eql .other (.tmp 16) (.tmp 20), none, (some 21), [16, 20]⟩,
  ⟨.mv (.tmp 21), none, (some 22), [21]⟩,
  ⟨.call 11 [], (some (22, true)), (some 23), []⟩,
  ⟨.pick (.tmp 22) (.tmp 23) (.lit (.bool false)), none, (some 24), [22, 23]⟩,
  ⟨.mv (.tmp 24), none, (some 6), [24]⟩]
def m7r5 : List MOper := [⟨.load (some 5) (.tmp 3), none, (some 17), [3]⟩]
def m7r6 : List MOper := [⟨.load (some 5) (.tmp 3), none, (some 17), [3]⟩]
def m7 : MFunc := ⟨25, [.tmp 6],
  (.seq (.region m7r0 [1, 2, 3])
  (.seq (.seq (.region m7r1 [1, 2, 3, 11])
  (.cond (.tmp 11)
  (.seq (.region m7r2 [6])
  .ret)
  .skip))
  (.seq (.dregion m7r3 m7r4 [m7r5, m7r6, [], [], [], [], [], []] [6])
  .ret)))⟩
def h7 : List RH := [⟨[1, 2, 3], 0, false, []⟩, ⟨[1, 2, 3, 11], 0, false, []⟩, ⟨[6], 0, false, []⟩, ⟨[6], 6, false, [0, 1, 2, 4, 5, 6, 3, 7, 8, 9, 10, 11, 12]⟩]
theorem m7_ok : cmpFn Tryd.prog 7 h7 = some m7 := by kernel_rfl

/- dialtone/dialtonelaw37.RatingKnown -/
def m8r0 : List MOper := [⟨.mv (.lit (.bool false)), none, (some 0), []⟩]
def m8r1 : List MOper := [⟨.call 22 [], none, (some 9), []⟩,
  ⟨.mkslice [(.str []), (.int .i64 0), (.int .i64 0), (.int .i64 0), .nils] 1 [(0, (.tmp 9))], none, (some 10), [9]⟩,
  ⟨.build [.nils, (.int .i64 0)] [(0, 1, (.tmp 10))], none, (some 11), [10]⟩,
  ⟨.zbox [.nils, (.int .i64 0)], none, (some 1), []⟩,
  ⟨.store 2 (.tmp 1) (.tmp 11), none, none, [1, 11]⟩]
def m8r2 : List MOper := [⟨.load (some 2) (.tmp 1), none, (some 13), [1]⟩,
  ⟨.call 12 [(.tmp 13), (.lit (.str [52, 57, 51, 48])), (.lit (.int .i64 460800000)), (.lit (.int .i64 460865000))], none, (some 14), [13]⟩,
  ⟨.mv (.tmp 14), none, (some 12), [14]⟩,
  ⟨.ext 0 (.tmp 12), none, (some 15), [12]⟩,
  ⟨.ext 1 (.tmp 12), none, (some 16), [12]⟩,
  ⟨.mv (.tmp 15), none, (some 2), [15]⟩,
  ⟨.mv (.tmp 16), none, (some 3), [16]⟩]
def m8r3 : List MOper := [⟨.load (some 2) (.tmp 1), none, (some 18), [1]⟩,
  ⟨.call 12 [(.tmp 18), (.lit (.str [52, 57, 51, 48])), (.lit (.int .i64 5)), (.lit (.int .i64 5))], none, (some 19), [18]⟩,
  ⟨.mv (.tmp 19), none, (some 17), [19]⟩,
  ⟨.ext 0 (.tmp 17), none, (some 20), [17]⟩,
  ⟨.ext 1 (.tmp 17), none, (some 21), [17]⟩,
  ⟨.mv (.tmp 20), none, (some 4), [20]⟩,
  ⟨.mv (.tmp 21), none, (some 5), [21]⟩]
def m8r4 : List MOper := [⟨.load (some 2) (.tmp 1), none, (some 23), [1]⟩,
  ⟨.call 12 [(.tmp 23), (.lit (.str [52, 57, 51, 48])), (.lit (.int .i64 2)), (.lit (.int .i64 1))], none, (some 24), [23]⟩,
  ⟨.mv (.tmp 24), none, (some 22), [24]⟩,
  ⟨.ext 0 (.tmp 22), none, (some 25), [22]⟩,
  ⟨.ext 1 (.tmp 22), none, (some 26), [22]⟩,
  ⟨.mv (.tmp 25), none, (some 6), [25]⟩,
  ⟨.mv (.tmp 26), none, (some 7), [26]⟩]
def m8r5 : List MOper := [⟨.mv (.tmp 3), none, (some 27), [3]⟩,
  ⟨.bin .neq .other (.tmp 27) (.lit (.int .u8 0)), none, (some 28), [27]⟩,
  ⟨.mv (.tmp 28), none, (some 29), [28]⟩,
  ⟨.mv (.tmp 2), (some (29, false)), (some 30), [2]⟩,
  ⟨.bin .neq .other (.tmp 30) (.lit (.int .i64 1200)), (some (29, false)), (some 31), [30]⟩,
  ⟨.pick (.tmp 29) (.lit (.bool true)) (.tmp 31), none, (some 32), [29, 31]⟩,
  ⟨.mv (.tmp 32), none, (some 33), [32]⟩,
  ⟨.mv (.tmp 5), (some (33, false)), (some 34), [5]⟩,
  ⟨.bin .neq .other (.tmp 34) (.lit (.int .u8 0)), (some (33, false)), (some 35), [34]⟩,
  ⟨.pick (.tmp 33) (.lit (.bool true)) (.tmp 35), none, (some 36), [33, 35]⟩,
  ⟨.mv (.tmp 36), none, (some 37), [36]⟩,
  ⟨.mv (.tmp 4), (some (37, false)), (some 38), [4]⟩,
  ⟨.bin .neq .other (.tmp 38) (.lit (.int .i64 0)), (some (37, false)), (some 39), [38]⟩,
  ⟨.pick (.tmp 37) (.lit (.bool true)) (.tmp 39), none, (some 40), [37, 39]⟩,
  ⟨.mv (.tmp 40), none, (some 41), [40]⟩,
  ⟨.mv (.tmp 7), (some (41, false)), (some 42), [7]⟩,
  ⟨.bin .neq .other (.tmp 42) (.lit (.int .u8 3)), (some (41, false)), (some 43), [42]⟩,
  ⟨.pick (.tmp 41) (.lit (.bool true)) (.tmp 43), none, (some 44), [41, 43]⟩,
  ⟨.mv (.tmp 44), none, (some 45), [44]⟩,
  ⟨.call 18 [(.lit (.int .i64 0)), (.lit (.int .i64 1))], (some (45, false)), (some 46), []⟩,
  ⟨.bin .neq .other (.tmp 46) (.lit (.int .i64 1)), (some (45, false)), (some 47), [46]⟩,
  ⟨.pick (.tmp 45) (.lit (.bool true)) (.tmp 47), none, (some 48), [45, 47]⟩,
  ⟨.mv (.tmp 48), none, (some 49), [48]⟩,
  ⟨.call 18 [(.lit (.int .i64 0)), (.lit (.int .i64 1000))], (some (49, false)), (some 50), []⟩,
  ⟨.bin .neq .other (.tmp 50) (.lit (.int .i64 1)), (some (49, false)), (some 51), [50]⟩,
  ⟨.pick (.tmp 49) (.lit (.bool true)) (.tmp 51), none, (some 52), [49, 51]⟩]
def m8r6 : List MOper := [⟨.mv (.lit (.bool false)), none, (some 0), []⟩]
def m8r7 : List MOper := [⟨.call 22 [], none, (some 53), []⟩,
  ⟨.zbox [(.str []), (.int .i64 0), (.int .i64 0), (.int .i64 0), .nils], none, (some 8), []⟩,
  ⟨.store 5 (.tmp 8) (.tmp 53), none, none, [8, 53]⟩]
def m8r8 : List MOper := [⟨.load (some 5) (.tmp 8), none, (some 54), [8]⟩,
  ⟨.call 20 [(.tmp 54), (.lit (.int .i64 0)), (.lit (.int .i64 60))], none, (some 55), [54]⟩,
  ⟨.bin .eql .other (.tmp 55) (.lit (.int .i64 1)), none, (some 56), [55]⟩,
  ⟨.mv (.tmp 56), none, (some 57), [56]⟩,
  ⟨.load (some 5) (.tmp 8), (some (57, true)), (some 58), [8]⟩,
  ⟨.call 20 [(.tmp 58), (.lit (.int .i64 0)), (.lit (.int .i64 61))], (some (57, true)), (some 59), [58]⟩,
  ⟨.bin .eql .other (.tmp 59) (.lit (.int .i64 2)), (some (57, true)), (some 60), [59]⟩,
  ⟨.pick (.tmp 57) (.tmp 60) (.lit (.bool false)), none, (some 61), [57, 60]⟩,
  ⟨.mv (.tmp 61), none, (some 62), [61]⟩,
  ⟨.load (some 5) (.tmp 8), (some (62, true)), (some 63), [8]⟩,
  ⟨.call 20 [(.tmp 63), (.lit (.int .i64 0)), (.lit (.int .i64 70))], (some (62, true)), (some 64), [63]⟩,
  ⟨.bin .eql .other (.tmp 64) (.lit (.int .i64 2)), (some (62, true)), (some 65), [64]⟩,
  ⟨.pick (.tmp 62) (.tmp 65) (.lit (.bool false)), none, (some 66), [62, 65]⟩,
  ⟨.mv (.tmp 66), none, (some 67), [66]⟩,
  ⟨.load (some 5) (.tmp 8), (some (67, true)), (some 68), [8]⟩,
  ⟨.call 20 [(.tmp 68), (.lit (.int .i64 0)), (.lit (.int .i64 71))], (some (67, true)), (some 69), [68]⟩,
  ⟨.bin .eql .other (.tmp 69) (.lit (.int .i64 3)), (some (67, true)), (some 70), [69]⟩,
  ⟨.pick (.tmp 67) (.tmp 70) (.lit (.bool false)), none, (some 71), [67, 70]⟩,
  ⟨.mv (.tmp 71), none, (some 72), [71]⟩,
  ⟨.load (some 5) (.tmp 8), (some (72, true)), (some 73), [8]⟩,
  ⟨.call 20 [(.tmp 73), (.lit (.int .i64 5)), (.lit (.int .i64 5))], (some (72, true)), (some 74), [73]⟩,
  ⟨.bin .eql .other (.tmp 74) (.lit (.int .i64 0)), (some (72, true)), (some 75), [74]⟩,
  ⟨.pick (.tmp 72) (.tmp 75) (.lit (.bool false)), none, (some 76), [72, 75]⟩,
  ⟨.mv (.tmp 76), none, (some 77), [76]⟩,
  ⟨.load (some 5) (.tmp 8), (some (77, true)), (some 78), [8]⟩,
  ⟨.call 20 [(.tmp 78), (.lit (.int .i64 5)), (.lit (.int .i64 66))], (some (77, true)), (some 79), [78]⟩,
  ⟨.bin .eql .other (.tmp 79) (.lit (.int .i64 2)), (some (77, true)), (some 80), [79]⟩,
  ⟨.pick (.tmp 77) (.tmp 80) (.lit (.bool false)), none, (some 81), [77, 80]⟩,
  ⟨.mv (.tmp 81), none, (some 82), [81]⟩,
  ⟨.call 11 [], (some (82, true)), (some 83), []⟩,
  ⟨.pick (.tmp 82) (.tmp 83) (.lit (.bool false)), none, (some 84), [82, 83]⟩,
  ⟨.mv (.tmp 84), none, (some 0), [84]⟩]
def m8 : MFunc := ⟨85, [.tmp 0],
  (.seq (.region m8r0 [])
  (.seq (.region m8r1 [1])
  (.seq (.region m8r2 [1, 2, 3])
  (.seq (.region m8r3 [1, 2, 3, 4, 5])
  (.seq (.region m8r4 [2, 3, 4, 5, 7])
  (.seq (.seq (.region m8r5 [52])
  (.cond (.tmp 52)
  (.seq (.region m8r6 [0])
  .ret)
  .skip))
  (.seq (.region m8r7 [8])
  (.seq (.region m8r8 [0])
  .ret))))))))⟩
def h8 : List RH := [⟨[], 0, false, []⟩, ⟨[1], 0, false, []⟩, ⟨[1, 2, 3], 0, false, []⟩, ⟨[1, 2, 3, 4, 5], 0, false, []⟩, ⟨[2, 3, 4, 5, 7], 0, false, []⟩, ⟨[52], 0, false, []⟩, ⟨[0], 0, false, []⟩, ⟨[8], 0, false, []⟩, ⟨[0], 0, false, []⟩]
theorem m8_ok : cmpFn Tryd.prog 8 h8 = some m8 := by kernel_rfl

/- dialtone/dialtonelaw37.RatingFinds -/
def m9r0 : List MOper := [⟨.box 2 (.tmp 0), none, (some 2), [0]⟩,
  ⟨.mv (.lit (.bool false)), none, (some 4), []⟩]
def m9r1 : List MOper := [⟨.load (some 2) (.tmp 2), none, (some 9), [2]⟩,
  ⟨.call 10 [(.tmp 9)], none, (some 10), [9]⟩,
  ⟨.un .not (.tmp 10), none, (some 11), [10]⟩]
def m9r2 : List MOper := [⟨.call 11 [], none, (some 12), []⟩,
  ⟨.mv (.tmp 12), none, (some 4), [12]⟩]
def m9r3 : List MOper := [⟨.load (some 2) (.tmp 2), none, (some 14), [2]⟩,
  ⟨.mv (.tmp 1), none, (some 15), [1]⟩,
  ⟨.call 23 [(.tmp 14), (.tmp 15)], none, (some 16), [14, 15]⟩,
  ⟨.mv (.tmp 16), none, (some 13), [16]⟩,
  ⟨.ext 0 (.tmp 13), none, (some 17), [13]⟩,
  ⟨.ext 1 (.tmp 13), none, (some 18), [13]⟩,
  ⟨.mv (.tmp 17), none, (some 5), [17]⟩,
  ⟨.mv (.tmp 18), none, (some 6), [18]⟩]
def m9r4 : List MOper := [⟨.load (some 2) (.tmp 2), none, (some 20), [2]⟩,
  ⟨.mv (.tmp 1), none, (some 21), [1]⟩,
  ⟨.call 15 [(.tmp 20), (.tmp 21)], none, (some 22), [20, 21]⟩,
  ⟨.mv (.tmp 22), none, (some 19), [22]⟩,
  ⟨.ext 0 (.tmp 19), none, (some 23), [19]⟩,
  ⟨.ext 1 (.tmp 19), none, (some 24), [19]⟩,
  ⟨.mv (.tmp 23), none, (some 7), [23]⟩,
  ⟨.mv (.tmp 24), none, (some 8), [24]⟩]
def m9r5 : List MOper := [⟨.load (some 2) (.tmp 2), none, (some 25), [2]⟩,
  ⟨.call 24 [(.tmp 25)], none, (some 26), [25]⟩,
  ⟨.load (some 2) (.tmp 2), none, (some 27), [2]⟩,
  ⟨.call 14 [(.tmp 27)], none, (some 28), [27]⟩,
  ⟨.bin .eql .bool (.tmp 26) (.tmp 28), none, (some 29), [26, 28]⟩,
  ⟨.mv (.tmp 29), none, (some 30), [29]⟩,
  ⟨.mv (.tmp 5), (some (30, true)), (some 31), [5]⟩,
  ⟨.mv (.tmp 7), (some (30, true)), (some 32), [7]⟩,
  ⟨.bin .eql .other (.tmp 31) (.tmp 32), (some (30, true)), (some 33), [31, 32]⟩,
  ⟨.pick (.tmp 30) (.tmp 33) (.lit (.bool false)), none, (some 34), [30, 33]⟩,
  ⟨.mv (.tmp 34), none, (some 35), [34]⟩,
  ⟨.mv (.tmp 6), (some (35, true)), (some 36), [6]⟩]
def m9r6 : List MOper := [⟨.mv (.tmp 8), (some (35, true)), (some 37), [8]⟩,
  ⟨.bin .eql .bool (.tmp 36) (.tmp 37), (some (35, true)), (some 38), [36, 37]⟩,
  ⟨.pick (.tmp 35) (.tmp 38) (.lit (.bool false)), none, (some 39), [35, 38]⟩,
  ⟨.mv (.tmp 39), none, (some 40), [39]⟩,
  ⟨.call 11 [], (some (40, true)), (some 41), []⟩,
  ⟨.pick (.tmp 40) (.tmp 41) (.lit (.bool false)), none, (some 42), [40, 41]⟩,
  ⟨.mv (.tmp 42), none, (some 4), [42]⟩]
def m9 : MFunc := ⟨43, [.tmp 4],
  (.seq (.region m9r0 [1, 2])
  (.seq (.seq (.region m9r1 [1, 2, 11])
  (.cond (.tmp 11)
  (.seq (.region m9r2 [4])
  .ret)
  .skip))
  (.seq (.region m9r3 [1, 2, 5, 6])
  (.seq (.region m9r4 [2, 5, 6, 7, 8])
  (.seq (.dregion m9r5 m9r6 [] [4])
  .ret)))))⟩
def h9 : List RH := [⟨[1, 2], 0, false, []⟩, ⟨[1, 2, 11], 0, false, []⟩, ⟨[4], 0, false, []⟩, ⟨[1, 2, 5, 6], 0, false, []⟩, ⟨[2, 5, 6, 7, 8], 0, false, []⟩, ⟨[4], 12, false, []⟩]
theorem m9_ok : cmpFn Tryd.prog 9 h9 = some m9 := by kernel_rfl

/- dialtone/dialtonelaw37.lives -/
def m11r0 : List MOper := [⟨.mv (.lit (.bool false)), none, (some 0), []⟩]
def m11r1 : List MOper := [⟨.call 22 [], none, (some 8), []⟩,
  ⟨.mkslice [(.str []), (.int .i64 0), (.int .i64 0), (.int .i64 0), .nils] 1 [(0, (.tmp 8))], none, (some 9), [8]⟩,
  ⟨.build [.nils, (.int .i64 0)] [(0, 1, (.tmp 9))], none, (some 10), [9]⟩,
  ⟨.zbox [.nils, (.int .i64 0)], none, (some 1), []⟩,
  ⟨.store 2 (.tmp 1) (.tmp 10), none, none, [1, 10]⟩]
def m11r2 : List MOper := [⟨.load (some 2) (.tmp 1), none, (some 12), [1]⟩,
  ⟨.call 12 [(.tmp 12), (.lit (.str [52, 57, 51, 48])), (.lit (.int .i64 28800000)), (.lit (.int .i64 28865000))], none, (some 13), [12]⟩,
  ⟨.mv (.tmp 13), none, (some 11), [13]⟩,
  ⟨.ext 0 (.tmp 11), none, (some 14), [11]⟩,
  ⟨.ext 1 (.tmp 11), none, (some 15), [11]⟩,
  ⟨.mv (.tmp 14), none, (some 2), [14]⟩,
  ⟨.mv (.tmp 15), none, (some 3), [15]⟩]
def m11r3 : List MOper := [⟨.load (some 2) (.tmp 1), none, (some 17), [1]⟩,
  ⟨.call 12 [(.tmp 17), (.lit (.str [52, 57, 51, 48])), (.lit (.int .i64 28770000)), (.lit (.int .i64 28835000))], none, (some 18), [17]⟩,
  ⟨.mv (.tmp 18), none, (some 16), [18]⟩,
  ⟨.ext 0 (.tmp 16), none, (some 19), [16]⟩,
  ⟨.ext 1 (.tmp 16), none, (some 20), [16]⟩,
  ⟨.mv (.tmp 19), none, (some 4), [19]⟩,
  ⟨.mv (.tmp 20), none, (some 5), [20]⟩]
def m11r4 : List MOper := [⟨.load (some 2) (.tmp 1), none, (some 22), [1]⟩,
  ⟨.call 12 [(.tmp 22), (.lit (.str [52, 51])), (.lit (.int .i64 0)), (.lit (.int .i64 1))], none, (some 23), [22]⟩,
  ⟨.mv (.tmp 23), none, (some 21), [23]⟩,
  ⟨.ext 0 (.tmp 21), none, (some 24), [21]⟩,
  ⟨.ext 1 (.tmp 21), none, (some 25), [21]⟩,
  ⟨.mv (.tmp 24), none, (some 6), [24]⟩,
  ⟨.mv (.tmp 25), none, (some 7), [25]⟩]
def m11r5 : List MOper := [⟨.mv (.tmp 3), none, (some 26), [3]⟩,
  ⟨.bin .eql .other (.tmp 26) (.lit (.int .u8 0)), none, (some 27), [26]⟩,
  ⟨.mv (.tmp 27), none, (some 28), [27]⟩,
  ⟨.mv (.tmp 2), (some (28, true)), (some 29), [2]⟩,
  ⟨.bin .eql .other (.tmp 29) (.lit (.int .i64 1900)), (some (28, true)), (some 30), [29]⟩,
  ⟨.pick (.tmp 28) (.tmp 30) (.lit (.bool false)), none, (some 31), [28, 30]⟩,
  ⟨.mv (.tmp 31), none, (some 32), [31]⟩,
  ⟨.mv (.tmp 5), (some (32, true)), (some 33), [5]⟩,
  ⟨.bin .eql .other (.tmp 33) (.lit (.int .u8 0)), (some (32, true)), (some 34), [33]⟩,
  ⟨.pick (.tmp 32) (.tmp 34) (.lit (.bool false)), none, (some 35), [32, 34]⟩,
  ⟨.mv (.tmp 35), none, (some 36), [35]⟩,
  ⟨.mv (.tmp 4), (some (36, true)), (some 37), [4]⟩,
  ⟨.bin .eql .other (.tmp 37) (.lit (.int .i64 1300)), (some (36, true)), (some 38), [37]⟩,
  ⟨.pick (.tmp 36) (.tmp 38) (.lit (.bool false)), none, (some 39), [36, 38]⟩,
  ⟨.mv (.tmp 39), none, (some 40), [39]⟩,
  ⟨.mv (.tmp 7), (some (40, true)), (some 41), [7]⟩,
  ⟨.bin .eql .other (.tmp 41) (.lit (.int .u8 8)), (some (40, true)), (some 42), [41]⟩,
  ⟨.pick (.tmp 40) (.tmp 42) (.lit (.bool false)), none, (some 43), [40, 42]⟩,
  ⟨.mv (.tmp 43), none, (some 44), [43]⟩,
  ⟨.load (some 2) (.tmp 1), (some (44, true)), (some 45), [1]⟩,
  ⟨.call 24 [(.tmp 45)], (some (44, true)), (some 46), [45]⟩,
  ⟨.pick (.tmp 44) (.tmp 46) (.lit (.bool false)), none, (some 47), [44, 46]⟩,
  ⟨.mv (.tmp 47), none, (some 48), [47]⟩,
  ⟨.call 18 [(.lit (.int .i64 500)), (.lit (.int .i64 1501))], (some (48, true)), (some 49), []⟩,
  ⟨.bin .eql .other (.tmp 49) (.lit (.int .i64 2)), (some (48, true)), (some 50), [49]⟩,
  ⟨.pick (.tmp 48) (.tmp 50) (.lit (.bool false)), none, (some 51), [48, 50]⟩,
  ⟨.mv (.tmp 51), none, (some 0), [51]⟩]
def m11 : MFunc := ⟨52, [.tmp 0],
  (.seq (.region m11r0 [])
  (.seq (.region m11r1 [1])
  (.seq (.region m11r2 [1, 2, 3])
  (.seq (.region m11r3 [1, 2, 3, 4, 5])
  (.seq (.region m11r4 [1, 2, 3, 4, 5, 7])
  (.seq (.region m11r5 [0])
  .ret))))))⟩
def h11 : List RH := [⟨[], 0, false, []⟩, ⟨[1], 0, false, []⟩, ⟨[1, 2, 3], 0, false, []⟩, ⟨[1, 2, 3, 4, 5], 0, false, []⟩, ⟨[1, 2, 3, 4, 5, 7], 0, false, []⟩, ⟨[0], 0, false, []⟩]
theorem m11_ok : cmpFn Tryd.prog 11 h11 = some m11 := by kernel_rfl

/- dialtone/dialtonelaw37.rate -/
def m22r0 : List MOper := [⟨.zbox [(.str []), (.int .i64 0), (.int .i64 0), (.int .i64 0), .nils], none, (some 0), []⟩]
def m22r1 : List MOper := [⟨.build [(.int .u8 0), (.int .i64 0), (.int .i64 0)] [(0, 1, (.lit (.int .u8 31))), (1, 1, (.lit (.int .i64 480))), (2, 1, (.lit (.int .i64 1080)))], none, (some 1), []⟩,
  ⟨.build [(.int .u8 0), (.int .i64 0), (.int .i64 0), (.int .i64 0), (.int .i64 0)] [(0, 3, (.tmp 1)), (3, 1, (.lit (.int .i64 1200))), (4, 1, (.lit (.int .i64 200)))], none, (some 2), [1]⟩,
  ⟨.build [(.int .u8 0), (.int .i64 0), (.int .i64 0)] [(0, 1, (.lit (.int .u8 127))), (2, 1, (.lit (.int .i64 1440)))], none, (some 3), []⟩,
  ⟨.build [(.int .u8 0), (.int .i64 0), (.int .i64 0), (.int .i64 0), (.int .i64 0)] [(0, 3, (.tmp 3)), (3, 1, (.lit (.int .i64 600))), (4, 1, (.lit (.int .i64 100)))], none, (some 4), [3]⟩,
  ⟨.mkslice [(.int .u8 0), (.int .i64 0), (.int .i64 0), (.int .i64 0), (.int .i64 0)] 2 [(0, (.tmp 2)), (1, (.tmp 4))], none, (some 5), [2, 4]⟩,
  ⟨.build [(.str []), (.int .i64 0), (.int .i64 0), (.int .i64 0), .nils] [(0, 1, (.lit (.str [52, 57]))), (1, 1, (.lit (.int .i64 500))), (2, 1, (.lit (.int .i64 60))), (3, 1, (.lit (.int .i64 10))), (4, 1, (.tmp 5))], none, (some 6), [5]⟩,
  ⟨.store 5 (.tmp 0) (.tmp 6), none, none, [0, 6]⟩]
def m22 : MFunc := ⟨7, [.cell 0 (some 5)],
  (.seq (.region m22r0 [0])
  (.seq (.region m22r1 [0])
  .ret))⟩
def h22 : List RH := [⟨[0], 0, false, []⟩, ⟨[0], 0, false, []⟩]
theorem m22_ok : cmpFn Tryd.prog 22 h22 = some m22 := by kernel_rfl

end Go.Ab.Tryd.S
