/-
  The translated functions of this claim, printed by a program of ours (gen.sh), with the kernel's word that they are the translation.
  Conditions: none.
-/
import Derived.Test.YtomakhllonkpiaaProg
import Derived.Test.YtomakhllonkpiaaAbEval
import Derived.KernelRfl
namespace Go.Ab.Try.S
open Go.Proofs
/- dialtone/dialtonelaw22.RegistrarForms -/
def m3r0 : List MOper := [⟨.box 4 (.tmp 0), none, (some 2), [0]⟩,
  ⟨.box 9 (.tmp 1), none, (some 3), [1]⟩,
  ⟨.mv (.lit (.bool false)), none, (some 4), []⟩]
def m3r1 : List MOper := [⟨.load (some 9) (.tmp 3), none, (some 5), [3]⟩,
  ⟨.call 7 [(.tmp 5)], none, (some 6), [5]⟩,
  ⟨.un .not (.tmp 6), none, (some 7), [6]⟩]
def m3r2 : List MOper := [⟨.call 8 [], none, (some 8), []⟩,
  ⟨.mv (.tmp 8), none, (some 4), [8]⟩]
def m3r3 : List MOper := [⟨.load (some 4) (.tmp 2), none, (some 9), [2]⟩,
  ⟨.call 9 [(.tmp 9)], none, (some 10), [9]⟩,
  ⟨.load (some 4) (.tmp 2), none, (some 11), [2]⟩,
  ⟨.call 10 [(.tmp 11)], none, (some 12), [11]⟩,
  ⟨.bin .eql .bool (.tmp 10) (.tmp 12), none, (some 13), [10, 12]⟩,
  ⟨.mv (.tmp 13), none, (some 14), [13]⟩,
  ⟨.load (some 9) (.tmp 3), (some (14, true)), (some 15), [3]⟩,
  ⟨.call 11 [(.tmp 15)], (some (14, true)), (some 16), [15]⟩,
  ⟨.load (some 9) (.tmp 3), (some (14, true)), (some 17), [3]⟩]
def m3r4 : List MOper := [⟨.call 12 [(.tmp 17)], (some (14, true)), (some 18), [17]⟩,
  ⟨.bin .eql .bool (.tmp 16) (.tmp 18), (some (14, true)), (some 19), [16, 18]⟩,
  ⟨.pick (.tmp 14) (.tmp 19) (.lit (.bool false)), none, (some 20), [14, 19]⟩,
  ⟨.mv (.tmp 20), none, (some 21), [20]⟩,
  ⟨.call 8 [], (some (21, true)), (some 22), []⟩,
  ⟨.pick (.tmp 21) (.tmp 22) (.lit (.bool false)), none, (some 23), [21, 22]⟩,
  ⟨.mv (.tmp 23), none, (some 4), [23]⟩]
def m3 : MFunc := ⟨24, [.tmp 4],
  (.seq (.region m3r0 [2, 3])
  (.seq (.seq (.region m3r1 [2, 3, 7])
  (.cond (.tmp 7)
  (.seq (.region m3r2 [4])
  .ret)
  .skip))
  (.seq (.dregion m3r3 m3r4 [] [4])
  .ret)))⟩
def h3 : List RH := [⟨[2, 3], 0, false, []⟩, ⟨[2, 3, 7], 0, false, []⟩, ⟨[4], 0, false, []⟩, ⟨[4], 9, false, []⟩]
theorem m3_ok : cmpFn Try.prog 3 h3 = some m3 := by kernel_rfl

/- dialtone/dialtonelaw22.RegistrarActs -/
def m4r0 : List MOper := [⟨.box 9 (.tmp 1), none, (some 4), [1]⟩,
  ⟨.mv (.lit (.bool false)), none, (some 6), []⟩]
def m4r1 : List MOper := [⟨.load (some 9) (.tmp 4), none, (some 22), [4]⟩,
  ⟨.call 7 [(.tmp 22)], none, (some 23), [22]⟩,
  ⟨.un .not (.tmp 23), none, (some 24), [23]⟩,
  ⟨.mv (.tmp 24), none, (some 25), [24]⟩,
  ⟨.mv (.tmp 2), (some (25, false)), (some 26), [2]⟩,
  ⟨.len 1 (.tmp 26), (some (25, false)), (some 27), [26]⟩,
  ⟨.bin .gtr .other (.tmp 27) (.lit (.int .i64 6000)), (some (25, false)), (some 28), [27]⟩,
  ⟨.pick (.tmp 25) (.lit (.bool true)) (.tmp 28), none, (some 29), [25, 28]⟩]
def m4r2 : List MOper := [⟨.call 8 [], none, (some 30), []⟩,
  ⟨.mv (.tmp 30), none, (some 6), [30]⟩]
def m4r3 : List MOper := [⟨.mv (.tmp 0), none, (some 32), [0]⟩,
  ⟨.load (some 9) (.tmp 4), none, (some 33), [4]⟩,
  ⟨.call 13 [(.tmp 32), (.tmp 33)], none, (some 34), [32, 33]⟩,
  ⟨.mv (.tmp 34), none, (some 31), [34]⟩,
  ⟨.ext 0 (.tmp 31), none, (some 35), [31]⟩,
  ⟨.ext 1 (.tmp 31), none, (some 36), [31]⟩,
  ⟨.mv (.tmp 35), none, (some 7), [35]⟩,
  ⟨.mv (.tmp 36), none, (some 8), [36]⟩]
def m4r4 : List MOper := [⟨.mv (.tmp 0), none, (some 38), [0]⟩,
  ⟨.load (some 9) (.tmp 4), none, (some 39), [4]⟩,
  ⟨.call 14 [(.tmp 38), (.tmp 39)], none, (some 40), [38, 39]⟩,
  ⟨.mv (.tmp 40), none, (some 37), [40]⟩,
  ⟨.ext 0 (.tmp 37), none, (some 41), [37]⟩,
  ⟨.ext 1 (.tmp 37), none, (some 42), [37]⟩,
  ⟨.mv (.tmp 41), none, (some 9), [41]⟩,
  ⟨.mv (.tmp 42), none, (some 10), [42]⟩]
def m4r5 : List MOper := [⟨.mv (.tmp 2), none, (some 44), [2]⟩,
  ⟨.call 15 [(.tmp 44)], none, (some 45), [44]⟩,
  ⟨.mv (.tmp 45), none, (some 43), [45]⟩,
  ⟨.ext 0 (.tmp 43), none, (some 46), [43]⟩,
  ⟨.ext 1 (.tmp 43), none, (some 47), [43]⟩,
  ⟨.ext 2 (.tmp 43), none, (some 48), [43]⟩,
  ⟨.zbox [(.str []), (.str []), (.int .i64 0), (.bool false), .nils, (.int .i64 0), (.str []), (.int .i64 0), .nils], none, (some 12), []⟩,
  ⟨.mv (.tmp 46), none, (some 11), [46]⟩,
  ⟨.store 9 (.tmp 12) (.tmp 47), none, none, [12, 47]⟩,
  ⟨.mv (.tmp 48), none, (some 13), [48]⟩]
def m4r6 : List MOper := [⟨.mv (.tmp 2), none, (some 50), [2]⟩,
  ⟨.call 16 [(.tmp 50)], none, (some 51), [50]⟩,
  ⟨.mv (.tmp 51), none, (some 49), [51]⟩,
  ⟨.ext 0 (.tmp 49), none, (some 52), [49]⟩,
  ⟨.ext 1 (.tmp 49), none, (some 53), [49]⟩,
  ⟨.ext 2 (.tmp 49), none, (some 54), [49]⟩,
  ⟨.zbox [(.str []), (.str []), (.int .i64 0), (.bool false), .nils, (.int .i64 0), (.str []), (.int .i64 0), .nils], none, (some 15), []⟩,
  ⟨.mv (.tmp 52), none, (some 14), [52]⟩,
  ⟨.store 9 (.tmp 15) (.tmp 53), none, none, [15, 53]⟩,
  ⟨.mv (.tmp 54), none, (some 16), [54]⟩]
def m4r7 : List MOper := [⟨.mv (.tmp 7), none, (some 55), [7]⟩,
  ⟨.tostr (.tmp 55), none, (some 56), [55]⟩,
  ⟨.mv (.tmp 9), none, (some 57), [9]⟩,
  ⟨.tostr (.tmp 57), none, (some 58), [57]⟩,
  ⟨.bin .neq .other (.tmp 56) (.tmp 58), none, (some 59), [56, 58]⟩,
  ⟨.mv (.tmp 59), none, (some 60), [59]⟩,
  ⟨.mv (.tmp 8), (some (60, false)), (some 61), [8]⟩,
  ⟨.mv (.tmp 10), (some (60, false)), (some 62), [10]⟩,
  ⟨.bin .neq .other (.tmp 61) (.tmp 62), (some (60, false)), (some 63), [61, 62]⟩,
  ⟨.pick (.tmp 60) (.lit (.bool true)) (.tmp 63), none, (some 64), [60, 63]⟩,
  ⟨.mv (.tmp 64), none, (some 65), [64]⟩,
  ⟨.mv (.tmp 11), (some (65, false)), (some 66), [11]⟩,
  ⟨.mv (.tmp 14), (some (65, false)), (some 67), [14]⟩,
  ⟨.bin .neq .other (.tmp 66) (.tmp 67), (some (65, false)), (some 68), [66, 67]⟩,
  ⟨.pick (.tmp 65) (.lit (.bool true)) (.tmp 68), none, (some 69), [65, 68]⟩,
  ⟨.mv (.tmp 69), none, (some 70), [69]⟩,
  ⟨.load (some 9) (.tmp 12), (some (70, false)), (some 71), [12]⟩,
  ⟨.load (some 9) (.tmp 15), (some (70, false)), (some 72), [15]⟩,
  ⟨.call 17 [(.tmp 71), (.tmp 72)], (some (70, false)), (some 73), [71, 72]⟩,
  ⟨.un .not (.tmp 73), (some (70, false)), (some 74), [73]⟩,
  ⟨.pick (.tmp 70) (.lit (.bool true)) (.tmp 74), none, (some 75), [70, 74]⟩,
  ⟨.mv (.tmp 75), none, (some 76), [75]⟩,
  ⟨.mv (.tmp 13), (some (76, false)), (some 77), [13]⟩,
  ⟨.mv (.tmp 16), (some (76, false)), (some 78), [16]⟩,
  ⟨.bin .neq .other (.tmp 77) (.tmp 78), (some (76, false)), (some 79), [77, 78]⟩,
  ⟨.pick (.tmp 76) (.lit (.bool true)) (.tmp 79), none, (some 80), [76, 79]⟩]
def m4r8 : List MOper := [⟨.mv (.lit (.bool false)), none, (some 6), []⟩]
def m4r9 : List MOper := [⟨.mv (.tmp 8), none, (some 81), [8]⟩,
  ⟨.bin .eql .other (.tmp 81) (.lit (.int .u8 0)), none, (some 82), [81]⟩]
def m4r10 : List MOper := [⟨.mv (.tmp 7), none, (some 84), [7]⟩,
  ⟨.call 15 [(.tmp 84)], none, (some 85), [84]⟩,
  ⟨.mv (.tmp 85), none, (some 83), [85]⟩,
  ⟨.ext 0 (.tmp 83), none, (some 86), [83]⟩,
  ⟨.ext 1 (.tmp 83), none, (some 87), [83]⟩,
  ⟨.ext 2 (.tmp 83), none, (some 88), [83]⟩,
  ⟨.zbox [(.str []), (.str []), (.int .i64 0), (.bool false), .nils, (.int .i64 0), (.str []), (.int .i64 0), .nils], none, (some 18), []⟩,
  ⟨.mv (.tmp 86), none, (some 17), [86]⟩,
  ⟨.store 9 (.tmp 18) (.tmp 87), none, none, [18, 87]⟩,
  ⟨.mv (.tmp 88), none, (some 19), [88]⟩]
def m4r11 : List MOper := [⟨.mv (.tmp 19), none, (some 89), [19]⟩,
  ⟨.bin .neq .other (.tmp 89) (.lit (.int .u8 0)), none, (some 90), [89]⟩,
  ⟨.mv (.tmp 90), none, (some 91), [90]⟩,
  ⟨.mv (.tmp 17), (some (91, false)), (some 92), [17]⟩,
  ⟨.mv (.tmp 0), (some (91, false)), (some 93), [0]⟩,
  ⟨.bin .neq .other (.tmp 92) (.tmp 93), (some (91, false)), (some 94), [92, 93]⟩,
  ⟨.pick (.tmp 91) (.lit (.bool true)) (.tmp 94), none, (some 95), [91, 94]⟩,
  ⟨.mv (.tmp 95), none, (some 96), [95]⟩,
  ⟨.load (some 9) (.tmp 18), (some (96, false)), (some 97), [18]⟩,
  ⟨.load (some 9) (.tmp 4), (some (96, false)), (some 98), [4]⟩,
  ⟨.call 17 [(.tmp 97), (.tmp 98)], (some (96, false)), (some 99), [97, 98]⟩,
  ⟨.un .not (.tmp 99), (some (96, false)), (some 100), [99]⟩,
  ⟨.pick (.tmp 96) (.lit (.bool true)) (.tmp 100), none, (some 101), [96, 100]⟩]
def m4r12 : List MOper := [⟨.mv (.lit (.bool false)), none, (some 6), []⟩]
def m4r13 : List MOper := [⟨.mv (.tmp 13), none, (some 102), [13]⟩,
  ⟨.bin .eql .other (.tmp 102) (.lit (.int .u8 0)), none, (some 103), [102]⟩]
def m4r14 : List MOper := [⟨.mv (.tmp 11), none, (some 105), [11]⟩,
  ⟨.load (some 9) (.tmp 12), none, (some 106), [12]⟩,
  ⟨.call 13 [(.tmp 105), (.tmp 106)], none, (some 107), [105, 106]⟩,
  ⟨.mv (.tmp 107), none, (some 104), [107]⟩,
  ⟨.ext 0 (.tmp 104), none, (some 108), [104]⟩,
  ⟨.ext 1 (.tmp 104), none, (some 109), [104]⟩,
  ⟨.mv (.tmp 108), none, (some 20), [108]⟩,
  ⟨.mv (.tmp 109), none, (some 21), [109]⟩]
def m4r15 : List MOper := [⟨.mv (.tmp 21), none, (some 110), [21]⟩,
  ⟨.bin .neq .other (.tmp 110) (.lit (.int .u8 4)), none, (some 111), [110]⟩,
  ⟨.mv (.tmp 111), none, (some 112), [111]⟩,
  ⟨.mv (.tmp 21), (some (112, true)), (some 113), [21]⟩,
  ⟨.bin .neq .other (.tmp 113) (.lit (.int .u8 0)), (some (112, true)), (some 114), [113]⟩,
  ⟨.mv (.tmp 114), (some (112, true)), (some 115), [114]⟩,
  ⟨.mv (.tmp 20), (some (115, false)), (some 116), [20]⟩,
  ⟨.tostr (.tmp 116), (some (115, false)), (some 117), [116]⟩,
  ⟨.mv (.tmp 2), (some (115, false)), (some 118), [2]⟩,
  ⟨.tostr (.tmp 118), (some (115, false)), (some 119), [118]⟩,
  ⟨.bin .neq .other (.tmp 117) (.tmp 119), (some (115, false)), (some 120), [117, 119]⟩,
  ⟨.pick (.tmp 115) (.lit (.bool true)) (.tmp 120), (some (112, true)), (some 121), [115, 120]⟩,
  ⟨.pick (.tmp 112) (.tmp 121) (.lit (.bool false)), none, (some 122), [112, 121]⟩]
def m4r16 : List MOper := [⟨.mv (.lit (.bool false)), none, (some 6), []⟩]
def m4r17 : List MOper := [⟨.call 8 [], none, (some 123), []⟩,
  ⟨.mv (.tmp 123), none, (some 6), [123]⟩]
def m4 : MFunc := ⟨124, [.tmp 6],
  (.seq (.region m4r0 [0, 2, 4])
  (.seq (.seq (.region m4r1 [0, 2, 4, 29])
  (.cond (.tmp 29)
  (.seq (.region m4r2 [6])
  .ret)
  .skip))
  (.seq (.region m4r3 [0, 2, 4, 7, 8])
  (.seq (.region m4r4 [0, 2, 4, 7, 8, 9, 10])
  (.seq (.region m4r5 [0, 2, 4, 7, 8, 9, 10, 11, 12, 13])
  (.seq (.region m4r6 [0, 2, 4, 7, 8, 9, 10, 11, 12, 13, 14, 15, 16])
  (.seq (.seq (.region m4r7 [0, 2, 4, 7, 8, 11, 12, 13, 80])
  (.cond (.tmp 80)
  (.seq (.region m4r8 [6])
  .ret)
  .skip))
  (.seq (.seq (.region m4r9 [0, 2, 4, 7, 11, 12, 13, 82])
  (.cond (.tmp 82)
  (.seq (.region m4r10 [0, 2, 4, 11, 12, 13, 17, 18, 19])
  (.seq (.region m4r11 [2, 11, 12, 13, 101])
  (.cond (.tmp 101)
  (.seq (.region m4r12 [6])
  .ret)
  .skip)))
  .skip))
  (.seq (.seq (.region m4r13 [2, 11, 12, 103])
  (.cond (.tmp 103)
  (.seq (.region m4r14 [2, 20, 21])
  (.seq (.region m4r15 [122])
  (.cond (.tmp 122)
  (.seq (.region m4r16 [6])
  .ret)
  .skip)))
  .skip))
  (.seq (.region m4r17 [6])
  .ret))))))))))⟩
def h4 : List RH := [⟨[0, 2, 4], 0, false, []⟩, ⟨[0, 2, 4, 29], 0, false, []⟩, ⟨[6], 0, false, []⟩, ⟨[0, 2, 4, 7, 8], 0, false, []⟩, ⟨[0, 2, 4, 7, 8, 9, 10], 0, false, []⟩, ⟨[0, 2, 4, 7, 8, 9, 10, 11, 12, 13], 0, false, []⟩, ⟨[0, 2, 4, 7, 8, 9, 10, 11, 12, 13, 14, 15, 16], 0, false, []⟩, ⟨[0, 2, 4, 7, 8, 11, 12, 13, 80], 0, false, []⟩, ⟨[6], 0, false, []⟩, ⟨[0, 2, 4, 7, 11, 12, 13, 82], 0, false, []⟩, ⟨[0, 2, 4, 11, 12, 13, 17, 18, 19], 0, false, []⟩, ⟨[2, 11, 12, 13, 101], 0, false, []⟩, ⟨[6], 0, false, []⟩, ⟨[2, 11, 12, 103], 0, false, []⟩, ⟨[2, 20, 21], 0, false, []⟩, ⟨[122], 0, false, []⟩, ⟨[6], 0, false, []⟩, ⟨[6], 0, false, []⟩]
theorem m4_ok : cmpFn Try.prog 4 h4 = some m4 := by kernel_rfl

/- dialtone/dialtonelaw22.few -/
def m7r0 : List MOper := [⟨.box 9 (.tmp 0), none, (some 1), [0]⟩,
  ⟨.mv (.lit (.bool false)), none, (some 2), []⟩]
def m7r1 : List MOper := [⟨.faddr 4 (.tmp 1), none, (some 5), [1]⟩,
  ⟨.load none (.tmp 5), none, (some 6), [5]⟩,
  ⟨.len 1 (.tmp 6), none, (some 7), [6]⟩,
  ⟨.bin .gtr .other (.tmp 7) (.lit (.int .i64 30)), none, (some 8), [7]⟩,
  ⟨.mv (.tmp 8), none, (some 9), [8]⟩,
  ⟨.faddr 8 (.tmp 1), (some (9, false)), (some 10), [1]⟩,
  ⟨.load none (.tmp 10), (some (9, false)), (some 11), [10]⟩,
  ⟨.len 1 (.tmp 11), (some (9, false)), (some 12), [11]⟩,
  ⟨.bin .gtr .other (.tmp 12) (.lit (.int .i64 30)), (some (9, false)), (some 13), [12]⟩,
  ⟨.pick (.tmp 9) (.lit (.bool true)) (.tmp 13), none, (some 14), [9, 13]⟩,
  ⟨.mv (.tmp 14), none, (some 15), [14]⟩,
  ⟨.faddr 0 (.tmp 1), (some (15, false)), (some 16), [1]⟩,
  ⟨.load none (.tmp 16), (some (15, false)), (some 17), [16]⟩,
  ⟨.len 0 (.tmp 17), (some (15, false)), (some 18), [17]⟩,
  ⟨.bin .gtr .other (.tmp 18) (.lit (.int .i64 2000)), (some (15, false)), (some 19), [18]⟩,
  ⟨.pick (.tmp 15) (.lit (.bool true)) (.tmp 19), none, (some 20), [15, 19]⟩,
  ⟨.mv (.tmp 20), none, (some 21), [20]⟩,
  ⟨.faddr 1 (.tmp 1), (some (21, false)), (some 22), [1]⟩,
  ⟨.load none (.tmp 22), (some (21, false)), (some 23), [22]⟩,
  ⟨.len 0 (.tmp 23), (some (21, false)), (some 24), [23]⟩,
  ⟨.bin .gtr .other (.tmp 24) (.lit (.int .i64 2000)), (some (21, false)), (some 25), [24]⟩,
  ⟨.pick (.tmp 21) (.lit (.bool true)) (.tmp 25), none, (some 26), [21, 25]⟩,
  ⟨.mv (.tmp 26), none, (some 27), [26]⟩,
  ⟨.faddr 6 (.tmp 1), (some (27, false)), (some 28), [1]⟩,
  ⟨.load none (.tmp 28), (some (27, false)), (some 29), [28]⟩,
  ⟨.len 0 (.tmp 29), (some (27, false)), (some 30), [29]⟩,
  ⟨.bin .gtr .other (.tmp 30) (.lit (.int .i64 2000)), (some (27, false)), (some 31), [30]⟩,
  ⟨.pick (.tmp 27) (.lit (.bool true)) (.tmp 31), none, (some 32), [27, 31]⟩]
def m7r2 : List MOper := [⟨.mv (.lit (.bool false)), none, (some 2), []⟩]
def m7r3 : List MOper := [⟨.mv (.lit (.int .i64 0)), none, (some 3), []⟩]
def m7r4 : List MOper := [⟨.mv (.tmp 3), none, (some 33), [3]⟩,
  ⟨.faddr 4 (.tmp 1), none, (some 34), [1]⟩,
  ⟨.load none (.tmp 34), none, (some 35), [34]⟩,
  ⟨.len 1 (.tmp 35), none, (some 36), [35]⟩,
  ⟨.bin .lss .other (.tmp 33) (.tmp 36), none, (some 37), [33, 36]⟩]
def m7r5 : List MOper := [⟨.faddr 4 (.tmp 1), none, (some 40), [1]⟩,
  ⟨.load none (.tmp 40), none, (some 41), [40]⟩,
  ⟨.mv (.tmp 3), none, (some 42), [3]⟩,
  ⟨.iaddr 3 (.tmp 41) (.tmp 42), none, (some 43), [41, 42]⟩,
  ⟨.faddr 0 (.tmp 43), none, (some 44), [43]⟩,
  ⟨.load none (.tmp 44), none, (some 45), [44]⟩,
  ⟨.len 0 (.tmp 45), none, (some 46), [45]⟩,
  ⟨.bin .gtr .other (.tmp 46) (.lit (.int .i64 2000)), none, (some 47), [46]⟩]
def m7r6 : List MOper := [⟨.mv (.lit (.bool false)), none, (some 2), []⟩]
def m7r7 : List MOper := [⟨.mv (.tmp 3), none, (some 38), [3]⟩,
  ⟨.bin .add .other (.tmp 38) (.lit (.int .i64 1)), none, (some 39), [38]⟩,
  ⟨.mv (.tmp 39), none, (some 3), [39]⟩]
def m7l8 : MCode := (.seq (.seq (.region m7r4 [1, 3, 37])
  (.cond (.tmp 37)
  .skip
  (.exit 0)))
  (.seq (.block 1 (.seq (.region m7r5 [1, 3, 47])
  (.cond (.tmp 47)
  (.seq (.region m7r6 [2])
  .ret)
  .skip)))
  (.region m7r7 [1, 3])))
def m7r9 : List MOper := [⟨.mv (.lit (.int .i64 0)), none, (some 4), []⟩]
def m7r10 : List MOper := [⟨.mv (.tmp 4), none, (some 48), [4]⟩,
  ⟨.faddr 8 (.tmp 1), none, (some 49), [1]⟩,
  ⟨.load none (.tmp 49), none, (some 50), [49]⟩,
  ⟨.len 1 (.tmp 50), none, (some 51), [50]⟩,
  ⟨.bin .lss .other (.tmp 48) (.tmp 51), none, (some 52), [48, 51]⟩]
def m7r11 : List MOper := [⟨.faddr 8 (.tmp 1), none, (some 55), [1]⟩,
  ⟨.load none (.tmp 55), none, (some 56), [55]⟩,
  ⟨.mv (.tmp 4), none, (some 57), [4]⟩,
  ⟨.iaddr 1 (.tmp 56) (.tmp 57), none, (some 58), [56, 57]⟩,
  ⟨.load none (.tmp 58), none, (some 59), [58]⟩,
  ⟨.len 0 (.tmp 59), none, (some 60), [59]⟩,
  ⟨.bin .gtr .other (.tmp 60) (.lit (.int .i64 2000)), none, (some 61), [60]⟩]
def m7r12 : List MOper := [⟨.mv (.lit (.bool false)), none, (some 2), []⟩]
def m7r13 : List MOper := [⟨.mv (.tmp 4), none, (some 53), [4]⟩,
  ⟨.bin .add .other (.tmp 53) (.lit (.int .i64 1)), none, (some 54), [53]⟩,
  ⟨.mv (.tmp 54), none, (some 4), [54]⟩]
def m7l14 : MCode := (.seq (.seq (.region m7r10 [1, 4, 52])
  (.cond (.tmp 52)
  .skip
  (.exit 2)))
  (.seq (.block 3 (.seq (.region m7r11 [1, 4, 61])
  (.cond (.tmp 61)
  (.seq (.region m7r12 [2])
  .ret)
  .skip)))
  (.region m7r13 [1, 4])))
def m7r15 : List MOper := [⟨.mv (.lit (.bool true)), none, (some 2), []⟩]
def m7 : MFunc := ⟨62, [.tmp 2],
  (.seq (.region m7r0 [1])
  (.seq (.seq (.region m7r1 [1, 32])
  (.cond (.tmp 32)
  (.seq (.region m7r2 [2])
  .ret)
  .skip))
  (.seq (.seq (.region m7r3 [1, 3])
  (.block 0 (.loop [1, 3] m7l8)))
  (.seq (.seq (.region m7r9 [1, 4])
  (.block 2 (.loop [1, 4] m7l14)))
  (.seq (.region m7r15 [2])
  .ret)))))⟩
def h7 : List RH := [⟨[1], 0, false, []⟩, ⟨[1, 32], 0, false, []⟩, ⟨[2], 0, false, []⟩, ⟨[1, 3], 0, false, []⟩, ⟨[1, 3], 0, false, []⟩, ⟨[1, 3, 37], 0, false, []⟩, ⟨[1, 3, 47], 0, false, []⟩, ⟨[2], 0, false, []⟩, ⟨[1, 3], 0, false, []⟩, ⟨[1, 4], 0, false, []⟩, ⟨[1, 4], 0, false, []⟩, ⟨[1, 4, 52], 0, false, []⟩, ⟨[1, 4, 61], 0, false, []⟩, ⟨[2], 0, false, []⟩, ⟨[1, 4], 0, false, []⟩, ⟨[2], 0, false, []⟩]
theorem m7_ok : cmpFn Try.prog 7 h7 = some m7 := by kernel_rfl

/- dialtone/registrar.Valid -/
def m9r0 : List MOper := [⟨.box 4 (.tmp 0), none, (some 1), [0]⟩,
  ⟨.mv (.lit (.bool false)), none, (some 2), []⟩]
def m9r1 : List MOper := [⟨.faddr 0 (.tmp 1), none, (some 3), [1]⟩,
  ⟨.load none (.tmp 3), none, (some 4), [3]⟩,
  ⟨.bin .geq .other (.tmp 4) (.lit (.int .i64 1)), none, (some 5), [4]⟩,
  ⟨.mv (.tmp 5), none, (some 6), [5]⟩,
  ⟨.faddr 0 (.tmp 1), (some (6, true)), (some 7), [1]⟩,
  ⟨.load none (.tmp 7), (some (6, true)), (some 8), [7]⟩,
  ⟨.faddr 1 (.tmp 1), (some (6, true)), (some 9), [1]⟩,
  ⟨.load none (.tmp 9), (some (6, true)), (some 10), [9]⟩,
  ⟨.bin .leq .other (.tmp 8) (.tmp 10), (some (6, true)), (some 11), [8, 10]⟩,
  ⟨.pick (.tmp 6) (.tmp 11) (.lit (.bool false)), none, (some 12), [6, 11]⟩,
  ⟨.mv (.tmp 12), none, (some 13), [12]⟩,
  ⟨.faddr 1 (.tmp 1), (some (13, true)), (some 14), [1]⟩,
  ⟨.load none (.tmp 14), (some (13, true)), (some 15), [14]⟩,
  ⟨.faddr 2 (.tmp 1), (some (13, true)), (some 16), [1]⟩,
  ⟨.load none (.tmp 16), (some (13, true)), (some 17), [16]⟩,
  ⟨.bin .leq .other (.tmp 15) (.tmp 17), (some (13, true)), (some 18), [15, 17]⟩,
  ⟨.pick (.tmp 13) (.tmp 18) (.lit (.bool false)), none, (some 19), [13, 18]⟩,
  ⟨.mv (.tmp 19), none, (some 20), [19]⟩,
  ⟨.faddr 2 (.tmp 1), (some (20, true)), (some 21), [1]⟩,
  ⟨.load none (.tmp 21), (some (20, true)), (some 22), [21]⟩,
  ⟨.bin .leq .other (.tmp 22) (.lit (.int .i64 10000000)), (some (20, true)), (some 23), [22]⟩,
  ⟨.pick (.tmp 20) (.tmp 23) (.lit (.bool false)), none, (some 24), [20, 23]⟩,
  ⟨.mv (.tmp 24), none, (some 25), [24]⟩,
  ⟨.faddr 3 (.tmp 1), (some (25, true)), (some 26), [1]⟩,
  ⟨.load none (.tmp 26), (some (25, true)), (some 27), [26]⟩,
  ⟨.bin .geq .other (.tmp 27) (.lit (.int .i64 1)), (some (25, true)), (some 28), [27]⟩,
  ⟨.pick (.tmp 25) (.tmp 28) (.lit (.bool false)), none, (some 29), [25, 28]⟩,
  ⟨.mv (.tmp 29), none, (some 30), [29]⟩,
  ⟨.faddr 3 (.tmp 1), (some (30, true)), (some 31), [1]⟩,
  ⟨.load none (.tmp 31), (some (30, true)), (some 32), [31]⟩,
  ⟨.bin .leq .other (.tmp 32) (.lit (.int .i64 100)), (some (30, true)), (some 33), [32]⟩,
  ⟨.pick (.tmp 30) (.tmp 33) (.lit (.bool false)), none, (some 34), [30, 33]⟩,
  ⟨.mv (.tmp 34), none, (some 2), [34]⟩]
def m9 : MFunc := ⟨35, [.tmp 2],
  (.seq (.region m9r0 [1])
  (.seq (.region m9r1 [2])
  .ret))⟩
def h9 : List RH := [⟨[1], 0, false, []⟩, ⟨[2], 0, false, []⟩]
theorem m9_ok : cmpFn Try.prog 9 h9 = some m9 := by kernel_rfl

/- dialtone/dialtoneref22.Valid -/
def m10r0 : List MOper := [⟨.box 4 (.tmp 0), none, (some 1), [0]⟩,
  ⟨.mv (.lit (.bool false)), none, (some 2), []⟩]
def m10r1 : List MOper := [⟨.faddr 0 (.tmp 1), none, (some 3), [1]⟩,
  ⟨.load none (.tmp 3), none, (some 4), [3]⟩,
  ⟨.bin .leq .other (.lit (.int .i64 1)) (.tmp 4), none, (some 5), [4]⟩,
  ⟨.mv (.tmp 5), none, (some 6), [5]⟩,
  ⟨.faddr 0 (.tmp 1), (some (6, true)), (some 7), [1]⟩,
  ⟨.load none (.tmp 7), (some (6, true)), (some 8), [7]⟩,
  ⟨.faddr 1 (.tmp 1), (some (6, true)), (some 9), [1]⟩,
  ⟨.load none (.tmp 9), (some (6, true)), (some 10), [9]⟩,
  ⟨.bin .leq .other (.tmp 8) (.tmp 10), (some (6, true)), (some 11), [8, 10]⟩,
  ⟨.pick (.tmp 6) (.tmp 11) (.lit (.bool false)), none, (some 12), [6, 11]⟩,
  ⟨.mv (.tmp 12), none, (some 13), [12]⟩,
  ⟨.faddr 1 (.tmp 1), (some (13, true)), (some 14), [1]⟩,
  ⟨.load none (.tmp 14), (some (13, true)), (some 15), [14]⟩,
  ⟨.faddr 2 (.tmp 1), (some (13, true)), (some 16), [1]⟩,
  ⟨.load none (.tmp 16), (some (13, true)), (some 17), [16]⟩,
  ⟨.bin .leq .other (.tmp 15) (.tmp 17), (some (13, true)), (some 18), [15, 17]⟩,
  ⟨.pick (.tmp 13) (.tmp 18) (.lit (.bool false)), none, (some 19), [13, 18]⟩,
  ⟨.mv (.tmp 19), none, (some 20), [19]⟩,
  ⟨.faddr 2 (.tmp 1), (some (20, true)), (some 21), [1]⟩,
  ⟨.load none (.tmp 21), (some (20, true)), (some 22), [21]⟩,
  ⟨.bin .leq .other (.tmp 22) (.lit (.int .i64 10000000)), (some (20, true)), (some 23), [22]⟩,
  ⟨.pick (.tmp 20) (.tmp 23) (.lit (.bool false)), none, (some 24), [20, 23]⟩,
  ⟨.mv (.tmp 24), none, (some 25), [24]⟩,
  ⟨.faddr 3 (.tmp 1), (some (25, true)), (some 26), [1]⟩,
  ⟨.load none (.tmp 26), (some (25, true)), (some 27), [26]⟩,
  ⟨.call 28 [(.tmp 27), (.lit (.int .i64 1)), (.lit (.int .i64 100))], (some (25, true)), (some 28), [27]⟩,
  ⟨.pick (.tmp 25) (.tmp 28) (.lit (.bool false)), none, (some 29), [25, 28]⟩,
  ⟨.mv (.tmp 29), none, (some 2), [29]⟩]
def m10 : MFunc := ⟨30, [.tmp 2],
  (.seq (.region m10r0 [1])
  (.seq (.region m10r1 [2])
  .ret))⟩
def h10 : List RH := [⟨[1], 0, false, []⟩, ⟨[2], 0, false, []⟩]
theorem m10_ok : cmpFn Try.prog 10 h10 = some m10 := by kernel_rfl

/- dialtone/registrar.Formed -/
def m11r0 : List MOper := [⟨.box 9 (.tmp 0), none, (some 1), [0]⟩,
  ⟨.mv (.lit (.bool false)), none, (some 2), []⟩]
def m11r1 : List MOper := [⟨.faddr 0 (.tmp 1), none, (some 7), [1]⟩,
  ⟨.load none (.tmp 7), none, (some 8), [7]⟩,
  ⟨.len 0 (.tmp 8), none, (some 9), [8]⟩,
  ⟨.call 29 [(.tmp 9), (.lit (.int .i64 1)), (.lit (.int .i64 255))], none, (some 10), [9]⟩,
  ⟨.un .not (.tmp 10), none, (some 11), [10]⟩,
  ⟨.mv (.tmp 11), none, (some 12), [11]⟩,
  ⟨.faddr 1 (.tmp 1), (some (12, false)), (some 13), [1]⟩,
  ⟨.load none (.tmp 13), (some (12, false)), (some 14), [13]⟩,
  ⟨.len 0 (.tmp 14), (some (12, false)), (some 15), [14]⟩,
  ⟨.call 29 [(.tmp 15), (.lit (.int .i64 1)), (.lit (.int .i64 255))], (some (12, false)), (some 16), [15]⟩,
  ⟨.un .not (.tmp 16), (some (12, false)), (some 17), [16]⟩,
  ⟨.pick (.tmp 12) (.lit (.bool true)) (.tmp 17), none, (some 18), [12, 17]⟩,
  ⟨.mv (.tmp 18), none, (some 19), [18]⟩,
  ⟨.faddr 2 (.tmp 1), (some (19, false)), (some 20), [1]⟩,
  ⟨.load none (.tmp 20), (some (19, false)), (some 21), [20]⟩,
  ⟨.call 29 [(.tmp 21), (.lit (.int .i64 0)), (.lit (.int .i64 2147483647))], (some (19, false)), (some 22), [21]⟩,
  ⟨.un .not (.tmp 22), (some (19, false)), (some 23), [22]⟩,
  ⟨.pick (.tmp 19) (.lit (.bool true)) (.tmp 23), none, (some 24), [19, 23]⟩,
  ⟨.mv (.tmp 24), none, (some 25), [24]⟩,
  ⟨.faddr 5 (.tmp 1), (some (25, false)), (some 26), [1]⟩,
  ⟨.load none (.tmp 26), (some (25, false)), (some 27), [26]⟩,
  ⟨.call 29 [(.tmp 27), (.lit (.int .i64 (-1))), (.lit (.int .i64 2147483647))], (some (25, false)), (some 28), [27]⟩,
  ⟨.un .not (.tmp 28), (some (25, false)), (some 29), [28]⟩,
  ⟨.pick (.tmp 25) (.lit (.bool true)) (.tmp 29), none, (some 30), [25, 29]⟩,
  ⟨.mv (.tmp 30), none, (some 6), [30]⟩]
def m11r2 : List MOper := [⟨.mv (.lit (.bool false)), none, (some 2), []⟩]
def m11r3 : List MOper := [⟨.faddr 4 (.tmp 1), none, (some 32), [1]⟩,
  ⟨.load none (.tmp 32), none, (some 33), [32]⟩,
  ⟨.len 1 (.tmp 33), none, (some 34), [33]⟩,
  ⟨.bin .gtr .other (.tmp 34) (.lit (.int .i64 20)), none, (some 35), [34]⟩,
  ⟨.mv (.tmp 35), none, (some 36), [35]⟩,
  ⟨.faddr 3 (.tmp 1), (some (36, false)), (some 37), [1]⟩,
  ⟨.load none (.tmp 37), (some (36, false)), (some 38), [37]⟩,
  ⟨.mv (.tmp 38), (some (36, false)), (some 39), [38]⟩,
  ⟨.faddr 4 (.tmp 1), (some (39, true)), (some 40), [1]⟩,
  ⟨.load none (.tmp 40), (some (39, true)), (some 41), [40]⟩,
  ⟨.len 1 (.tmp 41), (some (39, true)), (some 42), [41]⟩,
  ⟨.bin .gtr .other (.tmp 42) (.lit (.int .i64 0)), (some (39, true)), (some 43), [42]⟩,
  ⟨.mv (.tmp 43), (some (39, true)), (some 44), [43]⟩,
  ⟨.faddr 5 (.tmp 1), (some (44, false)), (some 45), [1]⟩,
  ⟨.load none (.tmp 45), (some (44, false)), (some 46), [45]⟩,
  ⟨.bin .neq .other (.tmp 46) (.lit (.int .i64 0)), (some (44, false)), (some 47), [46]⟩,
  ⟨.pick (.tmp 44) (.lit (.bool true)) (.tmp 47), (some (39, true)), (some 48), [44, 47]⟩,
  ⟨.pick (.tmp 39) (.tmp 48) (.lit (.bool false)), (some (36, false)), (some 49), [39, 48]⟩,
  ⟨.pick (.tmp 36) (.lit (.bool true)) (.tmp 49), none, (some 50), [36, 49]⟩,
  ⟨.mv (.tmp 50), none, (some 31), [50]⟩]
def m11r4 : List MOper := [⟨.mv (.lit (.bool false)), none, (some 2), []⟩]
def m11r5 : List MOper := [⟨.faddr 6 (.tmp 1), none, (some 52), [1]⟩,
  ⟨.load none (.tmp 52), none, (some 53), [52]⟩,
  ⟨.len 0 (.tmp 53), none, (some 54), [53]⟩,
  ⟨.bin .gtr .other (.tmp 54) (.lit (.int .i64 255)), none, (some 55), [54]⟩,
  ⟨.mv (.tmp 55), none, (some 56), [55]⟩,
  ⟨.faddr 7 (.tmp 1), (some (56, false)), (some 57), [1]⟩,
  ⟨.load none (.tmp 57), (some (56, false)), (some 58), [57]⟩,
  ⟨.call 29 [(.tmp 58), (.lit (.int .i64 0)), (.lit (.int .i64 2147483647))], (some (56, false)), (some 59), [58]⟩,
  ⟨.un .not (.tmp 59), (some (56, false)), (some 60), [59]⟩,
  ⟨.pick (.tmp 56) (.lit (.bool true)) (.tmp 60), none, (some 61), [56, 60]⟩,
  ⟨.mv (.tmp 61), none, (some 62), [61]⟩,
  ⟨.faddr 7 (.tmp 1), (some (62, false)), (some 63), [1]⟩,
  ⟨.load none (.tmp 63), (some (62, false)), (some 64), [63]⟩,
  ⟨.bin .gtr .other (.tmp 64) (.lit (.int .i64 0)), (some (62, false)), (some 65), [64]⟩,
  ⟨.mv (.tmp 65), (some (62, false)), (some 66), [65]⟩,
  ⟨.faddr 6 (.tmp 1), (some (66, true)), (some 67), [1]⟩,
  ⟨.load none (.tmp 67), (some (66, true)), (some 68), [67]⟩,
  ⟨.bin .eql .other (.tmp 68) (.lit (.str [])), (some (66, true)), (some 69), [68]⟩,
  ⟨.mv (.tmp 69), (some (66, true)), (some 70), [69]⟩,
  ⟨.faddr 4 (.tmp 1), (some (70, false)), (some 71), [1]⟩,
  ⟨.load none (.tmp 71), (some (70, false)), (some 72), [71]⟩,
  ⟨.len 1 (.tmp 72), (some (70, false)), (some 73), [72]⟩,
  ⟨.bin .gtr .other (.tmp 73) (.lit (.int .i64 1)), (some (70, false)), (some 74), [73]⟩,
  ⟨.pick (.tmp 70) (.lit (.bool true)) (.tmp 74), (some (66, true)), (some 75), [70, 74]⟩,
  ⟨.pick (.tmp 66) (.tmp 75) (.lit (.bool false)), (some (62, false)), (some 76), [66, 75]⟩,
  ⟨.pick (.tmp 62) (.lit (.bool true)) (.tmp 76), none, (some 77), [62, 76]⟩,
  ⟨.mv (.tmp 77), none, (some 51), [77]⟩]
def m11r6 : List MOper := [⟨.mv (.lit (.bool false)), none, (some 2), []⟩]
def m11r7 : List MOper := [⟨.faddr 8 (.tmp 1), none, (some 79), [1]⟩,
  ⟨.load none (.tmp 79), none, (some 80), [79]⟩,
  ⟨.len 1 (.tmp 80), none, (some 81), [80]⟩,
  ⟨.bin .gtr .other (.tmp 81) (.lit (.int .i64 10)), none, (some 82), [81]⟩,
  ⟨.mv (.tmp 82), none, (some 83), [82]⟩,
  ⟨.faddr 8 (.tmp 1), (some (83, false)), (some 84), [1]⟩,
  ⟨.load none (.tmp 84), (some (83, false)), (some 85), [84]⟩,
  ⟨.call 30 [(.tmp 85), (.lit (.func 31 [] []))], (some (83, false)), (some 86), [85]⟩,
  ⟨.pick (.tmp 83) (.lit (.bool true)) (.tmp 86), none, (some 87), [83, 86]⟩,
  ⟨.mv (.tmp 87), none, (some 78), [87]⟩]
def m11r8 : List MOper := [⟨.mv (.lit (.bool false)), none, (some 2), []⟩]
def m11r9 : List MOper := [⟨.mkmap, none, (some 88), []⟩,
  ⟨.mv (.tmp 88), none, (some 3), [88]⟩]
def m11r10 : List MOper := [⟨.faddr 4 (.tmp 1), none, (some 89), [1]⟩,
  ⟨.load none (.tmp 89), none, (some 90), [89]⟩,
  ⟨.len 1 (.tmp 90), none, (some 91), [90]⟩,
  ⟨.mv (.lit (.int .i64 0)), none, (some 92), []⟩]
def m11r11 : List MOper := [⟨.bin .lss .other (.tmp 92) (.tmp 91), none, (some 93), [92, 91]⟩]
def m11r12 : List MOper := [⟨.iaddr 3 (.tmp 90) (.tmp 92), none, (some 94), [90, 92]⟩,
  ⟨.load (some 3) (.tmp 94), none, (some 95), [94]⟩,
  ⟨.zbox [(.str []), (.int .i64 0), (.int .i64 0)], none, (some 5), []⟩,
  ⟨.store 3 (.tmp 5) (.tmp 95), none, none, [5, 95]⟩]
def m11r13 : List MOper := [⟨.faddr 0 (.tmp 5), none, (some 96), [5]⟩,
  ⟨.load none (.tmp 96), none, (some 97), [96]⟩,
  ⟨.len 0 (.tmp 97), none, (some 98), [97]⟩,
  ⟨.call 29 [(.tmp 98), (.lit (.int .i64 1)), (.lit (.int .i64 1000))], none, (some 99), [98]⟩,
  ⟨.un .not (.tmp 99), none, (some 100), [99]⟩,
  ⟨.mv (.tmp 100), none, (some 101), [100]⟩,
  ⟨.faddr 1 (.tmp 5), (some (101, false)), (some 102), [5]⟩,
  ⟨.load none (.tmp 102), (some (101, false)), (some 103), [102]⟩,
  ⟨.call 29 [(.tmp 103), (.lit (.int .i64 0)), (.lit (.int .i64 1000))], (some (101, false)), (some 104), [103]⟩,
  ⟨.un .not (.tmp 104), (some (101, false)), (some 105), [104]⟩,
  ⟨.pick (.tmp 101) (.lit (.bool true)) (.tmp 105), none, (some 106), [101, 105]⟩,
  ⟨.mv (.tmp 106), none, (some 107), [106]⟩,
  ⟨.faddr 2 (.tmp 5), (some (107, false)), (some 108), [5]⟩,
  ⟨.load none (.tmp 108), (some (107, false)), (some 109), [108]⟩,
  ⟨.call 29 [(.tmp 109), (.lit (.int .i64 (-1))), (.lit (.int .i64 2147483647))], (some (107, false)), (some 110), [109]⟩,
  ⟨.un .not (.tmp 110), (some (107, false)), (some 111), [110]⟩,
  ⟨.pick (.tmp 107) (.lit (.bool true)) (.tmp 111), none, (some 112), [107, 111]⟩,
  ⟨.mv (.tmp 112), none, (some 113), [112]⟩,
  ⟨.mv (.tmp 3), (some (113, false)), (some 114), [3]⟩,
  ⟨.faddr 0 (.tmp 5), (some (113, false)), (some 115), [5]⟩,
  ⟨.load none (.tmp 115), (some (113, false)), (some 116), [115]⟩,
  ⟨.look 2 (.bool false) false (.tmp 114) (.tmp 116), (some (113, false)), (some 117), [114, 116]⟩,
  ⟨.pick (.tmp 113) (.lit (.bool true)) (.tmp 117), none, (some 118), [113, 117]⟩]
def m11r14 : List MOper := [⟨.mv (.lit (.bool false)), none, (some 2), []⟩]
def m11r15 : List MOper := [⟨.mv (.tmp 3), none, (some 119), [3]⟩,
  ⟨.faddr 0 (.tmp 5), none, (some 120), [5]⟩,
  ⟨.load none (.tmp 120), none, (some 121), [120]⟩,
  ⟨.mupd 2 (.tmp 119) (.tmp 121) (.lit (.bool true)), none, none, [119, 121]⟩]
def m11r16 : List MOper := [⟨.bin .add .other (.tmp 92) (.lit (.int .i64 1)), none, (some 122), [92]⟩,
  ⟨.mv (.tmp 122), none, (some 92), [122]⟩]
def m11l17 : MCode := (.seq (.region m11r11 [3, 90, 91, 92, 93])
  (.seq (.cond (.tmp 93)
  .skip
  (.exit 1))
  (.seq (.block 2 (.seq (.region m11r12 [3, 5, 90, 91, 92])
  (.seq (.seq (.region m11r13 [3, 5, 90, 91, 92, 118])
  (.cond (.tmp 118)
  (.seq (.region m11r14 [2])
  .ret)
  .skip))
  (.region m11r15 [3, 90, 91, 92]))))
  (.region m11r16 [3, 90, 91, 92]))))
def m11r18 : List MOper := [⟨.mv (.lit (.bool true)), none, (some 2), []⟩]
def m11 : MFunc := ⟨123, [.tmp 2],
  (.seq (.region m11r0 [1])
  (.seq (.block 0 (.seq (.region m11r1 [1, 6])
  (.cond (.tmp 6)
  (.seq (.region m11r2 [2])
  .ret)
  (.seq (.region m11r3 [1, 31])
  (.cond (.tmp 31)
  (.seq (.region m11r4 [2])
  .ret)
  (.seq (.region m11r5 [1, 51])
  (.cond (.tmp 51)
  (.seq (.region m11r6 [2])
  .ret)
  (.seq (.region m11r7 [1, 78])
  (.cond (.tmp 78)
  (.seq (.region m11r8 [2])
  .ret)
  .skip)))))))))
  (.seq (.region m11r9 [1, 3])
  (.seq (.seq (.region m11r10 [3, 90, 91, 92])
  (.block 1 (.loop [3, 90, 91, 92] m11l17)))
  (.seq (.region m11r18 [2])
  .ret)))))⟩
def h11 : List RH := [⟨[1], 0, false, []⟩, ⟨[1, 6], 0, false, []⟩, ⟨[2], 0, false, []⟩, ⟨[1, 31], 0, false, []⟩, ⟨[2], 0, false, []⟩, ⟨[1, 51], 0, false, []⟩, ⟨[2], 0, false, []⟩, ⟨[1, 78], 0, false, []⟩, ⟨[2], 0, false, []⟩, ⟨[1, 3], 0, false, []⟩, ⟨[3, 90, 91, 92], 0, false, []⟩, ⟨[3, 90, 91, 92], 0, false, []⟩, ⟨[3, 90, 91, 92, 93], 0, false, []⟩, ⟨[3, 5, 90, 91, 92], 0, false, []⟩, ⟨[3, 5, 90, 91, 92, 118], 0, false, []⟩, ⟨[2], 0, false, []⟩, ⟨[3, 90, 91, 92], 0, false, []⟩, ⟨[3, 90, 91, 92], 0, false, []⟩, ⟨[2], 0, false, []⟩]
theorem m11_ok : cmpFn Try.prog 11 h11 = some m11 := by kernel_rfl

/- dialtone/dialtoneref22.Formed -/
def m12r0 : List MOper := [⟨.box 9 (.tmp 0), none, (some 1), [0]⟩,
  ⟨.mv (.lit (.bool false)), none, (some 2), []⟩]
def m12r1 : List MOper := [⟨.faddr 0 (.tmp 1), none, (some 4), [1]⟩,
  ⟨.load none (.tmp 4), none, (some 5), [4]⟩,
  ⟨.len 0 (.tmp 5), none, (some 6), [5]⟩,
  ⟨.call 28 [(.tmp 6), (.lit (.int .i64 1)), (.lit (.int .i64 255))], none, (some 7), [6]⟩,
  ⟨.un .not (.tmp 7), none, (some 8), [7]⟩,
  ⟨.mv (.tmp 8), none, (some 9), [8]⟩,
  ⟨.faddr 1 (.tmp 1), (some (9, false)), (some 10), [1]⟩,
  ⟨.load none (.tmp 10), (some (9, false)), (some 11), [10]⟩,
  ⟨.len 0 (.tmp 11), (some (9, false)), (some 12), [11]⟩,
  ⟨.call 28 [(.tmp 12), (.lit (.int .i64 1)), (.lit (.int .i64 255))], (some (9, false)), (some 13), [12]⟩,
  ⟨.un .not (.tmp 13), (some (9, false)), (some 14), [13]⟩,
  ⟨.pick (.tmp 9) (.lit (.bool true)) (.tmp 14), none, (some 15), [9, 14]⟩,
  ⟨.mv (.tmp 15), none, (some 16), [15]⟩,
  ⟨.faddr 2 (.tmp 1), (some (16, false)), (some 17), [1]⟩,
  ⟨.load none (.tmp 17), (some (16, false)), (some 18), [17]⟩,
  ⟨.call 28 [(.tmp 18), (.lit (.int .i64 0)), (.lit (.int .i64 2147483647))], (some (16, false)), (some 19), [18]⟩,
  ⟨.un .not (.tmp 19), (some (16, false)), (some 20), [19]⟩,
  ⟨.pick (.tmp 16) (.lit (.bool true)) (.tmp 20), none, (some 21), [16, 20]⟩,
  ⟨.mv (.tmp 21), none, (some 22), [21]⟩,
  ⟨.faddr 5 (.tmp 1), (some (22, false)), (some 23), [1]⟩,
  ⟨.load none (.tmp 23), (some (22, false)), (some 24), [23]⟩,
  ⟨.call 28 [(.tmp 24), (.lit (.int .i64 (-1))), (.lit (.int .i64 2147483647))], (some (22, false)), (some 25), [24]⟩,
  ⟨.un .not (.tmp 25), (some (22, false)), (some 26), [25]⟩,
  ⟨.pick (.tmp 22) (.lit (.bool true)) (.tmp 26), none, (some 27), [22, 26]⟩]
def m12r2 : List MOper := [⟨.mv (.lit (.bool false)), none, (some 2), []⟩]
def m12r3 : List MOper := [⟨.load (some 9) (.tmp 1), none, (some 28), [1]⟩,
  ⟨.call 32 [(.tmp 28)], none, (some 29), [28]⟩,
  ⟨.un .not (.tmp 29), none, (some 30), [29]⟩,
  ⟨.mv (.tmp 30), none, (some 31), [30]⟩,
  ⟨.faddr 6 (.tmp 1), (some (31, false)), (some 32), [1]⟩,
  ⟨.load none (.tmp 32), (some (31, false)), (some 33), [32]⟩,
  ⟨.len 0 (.tmp 33), (some (31, false)), (some 34), [33]⟩,
  ⟨.bin .gtr .other (.tmp 34) (.lit (.int .i64 255)), (some (31, false)), (some 35), [34]⟩,
  ⟨.pick (.tmp 31) (.lit (.bool true)) (.tmp 35), none, (some 36), [31, 35]⟩,
  ⟨.mv (.tmp 36), none, (some 37), [36]⟩,
  ⟨.faddr 7 (.tmp 1), (some (37, false)), (some 38), [1]⟩,
  ⟨.load none (.tmp 38), (some (37, false)), (some 39), [38]⟩,
  ⟨.call 28 [(.tmp 39), (.lit (.int .i64 0)), (.lit (.int .i64 2147483647))], (some (37, false)), (some 40), [39]⟩,
  ⟨.un .not (.tmp 40), (some (37, false)), (some 41), [40]⟩,
  ⟨.pick (.tmp 37) (.lit (.bool true)) (.tmp 41), none, (some 42), [37, 41]⟩]
def m12r4 : List MOper := [⟨.mv (.lit (.bool false)), none, (some 2), []⟩]
def m12r5 : List MOper := [⟨.faddr 7 (.tmp 1), none, (some 43), [1]⟩,
  ⟨.load none (.tmp 43), none, (some 44), [43]⟩,
  ⟨.bin .neq .other (.tmp 44) (.lit (.int .i64 0)), none, (some 45), [44]⟩,
  ⟨.mv (.tmp 45), none, (some 46), [45]⟩,
  ⟨.faddr 6 (.tmp 1), (some (46, true)), (some 47), [1]⟩,
  ⟨.load none (.tmp 47), (some (46, true)), (some 48), [47]⟩,
  ⟨.len 0 (.tmp 48), (some (46, true)), (some 49), [48]⟩,
  ⟨.bin .eql .other (.tmp 49) (.lit (.int .i64 0)), (some (46, true)), (some 50), [49]⟩,
  ⟨.mv (.tmp 50), (some (46, true)), (some 51), [50]⟩,
  ⟨.faddr 4 (.tmp 1), (some (51, false)), (some 52), [1]⟩,
  ⟨.load none (.tmp 52), (some (51, false)), (some 53), [52]⟩,
  ⟨.len 1 (.tmp 53), (some (51, false)), (some 54), [53]⟩,
  ⟨.bin .gtr .other (.tmp 54) (.lit (.int .i64 1)), (some (51, false)), (some 55), [54]⟩,
  ⟨.pick (.tmp 51) (.lit (.bool true)) (.tmp 55), (some (46, true)), (some 56), [51, 55]⟩,
  ⟨.pick (.tmp 46) (.tmp 56) (.lit (.bool false)), none, (some 57), [46, 56]⟩,
  ⟨.mv (.tmp 57), none, (some 58), [57]⟩,
  ⟨.faddr 8 (.tmp 1), (some (58, false)), (some 59), [1]⟩,
  ⟨.load none (.tmp 59), (some (58, false)), (some 60), [59]⟩,
  ⟨.len 1 (.tmp 60), (some (58, false)), (some 61), [60]⟩,
  ⟨.bin .gtr .other (.tmp 61) (.lit (.int .i64 10)), (some (58, false)), (some 62), [61]⟩,
  ⟨.pick (.tmp 58) (.lit (.bool true)) (.tmp 62), none, (some 63), [58, 62]⟩]
def m12r6 : List MOper := [⟨.mv (.lit (.bool false)), none, (some 2), []⟩]
def m12r7 : List MOper := [⟨.mv (.lit (.int .i64 0)), none, (some 3), []⟩]
def m12r8 : List MOper := [⟨.mv (.tmp 3), none, (some 64), [3]⟩,
  ⟨.faddr 8 (.tmp 1), none, (some 65), [1]⟩,
  ⟨.load none (.tmp 65), none, (some 66), [65]⟩,
  ⟨.len 1 (.tmp 66), none, (some 67), [66]⟩,
  ⟨.bin .lss .other (.tmp 64) (.tmp 67), none, (some 68), [64, 67]⟩]
def m12r9 : List MOper := [⟨.faddr 8 (.tmp 1), none, (some 71), [1]⟩,
  ⟨.load none (.tmp 71), none, (some 72), [71]⟩,
  ⟨.mv (.tmp 3), none, (some 73), [3]⟩,
  ⟨.iaddr 1 (.tmp 72) (.tmp 73), none, (some 74), [72, 73]⟩,
  ⟨.load none (.tmp 74), none, (some 75), [74]⟩,
  ⟨.len 0 (.tmp 75), none, (some 76), [75]⟩,
  ⟨.call 28 [(.tmp 76), (.lit (.int .i64 1)), (.lit (.int .i64 1000))], none, (some 77), [76]⟩,
  ⟨.un .not (.tmp 77), none, (some 78), [77]⟩]
def m12r10 : List MOper := [⟨.mv (.lit (.bool false)), none, (some 2), []⟩]
def m12r11 : List MOper := [⟨.mv (.tmp 3), none, (some 69), [3]⟩,
  ⟨.bin .add .other (.tmp 69) (.lit (.int .i64 1)), none, (some 70), [69]⟩,
  ⟨.mv (.tmp 70), none, (some 3), [70]⟩]
def m12l12 : MCode := (.seq (.seq (.region m12r8 [1, 3, 68])
  (.cond (.tmp 68)
  .skip
  (.exit 0)))
  (.seq (.block 1 (.seq (.region m12r9 [1, 3, 78])
  (.cond (.tmp 78)
  (.seq (.region m12r10 [2])
  .ret)
  .skip)))
  (.region m12r11 [1, 3])))
def m12r13 : List MOper := [⟨.mv (.lit (.bool true)), none, (some 2), []⟩]
def m12 : MFunc := ⟨79, [.tmp 2],
  (.seq (.region m12r0 [1])
  (.seq (.seq (.region m12r1 [1, 27])
  (.cond (.tmp 27)
  (.seq (.region m12r2 [2])
  .ret)
  .skip))
  (.seq (.seq (.region m12r3 [1, 42])
  (.cond (.tmp 42)
  (.seq (.region m12r4 [2])
  .ret)
  .skip))
  (.seq (.seq (.region m12r5 [1, 63])
  (.cond (.tmp 63)
  (.seq (.region m12r6 [2])
  .ret)
  .skip))
  (.seq (.seq (.region m12r7 [1, 3])
  (.block 0 (.loop [1, 3] m12l12)))
  (.seq (.region m12r13 [2])
  .ret))))))⟩
def h12 : List RH := [⟨[1], 0, false, []⟩, ⟨[1, 27], 0, false, []⟩, ⟨[2], 0, false, []⟩, ⟨[1, 42], 0, false, []⟩, ⟨[2], 0, false, []⟩, ⟨[1, 63], 0, false, []⟩, ⟨[2], 0, false, []⟩, ⟨[1, 3], 0, false, []⟩, ⟨[1, 3], 0, false, []⟩, ⟨[1, 3, 68], 0, false, []⟩, ⟨[1, 3, 78], 0, false, []⟩, ⟨[2], 0, false, []⟩, ⟨[1, 3], 0, false, []⟩, ⟨[2], 0, false, []⟩]
theorem m12_ok : cmpFn Try.prog 12 h12 = some m12 := by kernel_rfl

/- dialtone/registrar.EncodeAct -/
def m13r0 : List MOper := [⟨.box 9 (.tmp 1), none, (some 3), [1]⟩,
  ⟨.mv (.lit .nils), none, (some 4), []⟩,
  ⟨.mv (.lit (.int .u8 0)), none, (some 5), []⟩]
def m13r1 : List MOper := [⟨.load (some 9) (.tmp 3), none, (some 12), [3]⟩,
  ⟨.call 11 [(.tmp 12)], none, (some 13), [12]⟩,
  ⟨.un .not (.tmp 13), none, (some 14), [13]⟩,
  ⟨.mv (.tmp 14), none, (some 15), [14]⟩,
  ⟨.mv (.tmp 0), (some (15, false)), (some 16), [0]⟩,
  ⟨.call 29 [(.tmp 16), (.lit (.int .i64 0)), (.lit (.int .i64 1099511627776))], (some (15, false)), (some 17), [16]⟩,
  ⟨.un .not (.tmp 17), (some (15, false)), (some 18), [17]⟩,
  ⟨.pick (.tmp 15) (.lit (.bool true)) (.tmp 18), none, (some 19), [15, 18]⟩]
def m13r2 : List MOper := [⟨.mv (.lit .nils), none, (some 4), []⟩,
  ⟨.mv (.lit (.int .u8 2)), none, (some 5), []⟩]
def m13r3 : List MOper := [⟨.mv (.tmp 0), none, (some 20), [0]⟩,
  ⟨.faddr 0 (.tmp 3), none, (some 22), [3]⟩,
  ⟨.load none (.tmp 22), none, (some 23), [22]⟩,
  ⟨.faddr 1 (.tmp 3), none, (some 25), [3]⟩,
  ⟨.load none (.tmp 25), none, (some 26), [25]⟩]
def m13r4 : List MOper := [⟨.call 34 [(.lit .nils), (.tmp 20), (.lit (.int .i64 8))], none, (some 21), [20]⟩,
  ⟨.call 33 [(.tmp 21), (.tmp 23)], none, (some 24), [21, 23]⟩,
  ⟨.call 33 [(.tmp 24), (.tmp 26)], none, (some 27), [24, 26]⟩,
  ⟨.mv (.tmp 27), none, (some 6), [27]⟩]
def m13r5 : List MOper := [⟨.load none (.tmp 22), none, (some 23), [22]⟩,
  ⟨.load none (.tmp 25), none, (some 26), [25]⟩]
def m13r6 : List MOper := [⟨.load none (.tmp 22), none, (some 23), [22]⟩,
  ⟨.load none (.tmp 25), none, (some 26), [25]⟩]
def m13r7 : List MOper := [⟨.load none (.tmp 25), none, (some 26), [25]⟩]
def m13r8 : List MOper := [⟨.mv (.tmp 6), none, (some 28), [6]⟩,
  ⟨.faddr 2 (.tmp 3), none, (some 29), [3]⟩,
  ⟨.load none (.tmp 29), none, (some 30), [29]⟩,
  ⟨.call 34 [(.tmp 28), (.tmp 30), (.lit (.int .i64 4))], none, (some 31), [28, 30]⟩,
  ⟨.mv (.tmp 31), none, (some 6), [31]⟩]
def m13r9 : List MOper := [⟨.mv (.lit (.int .i64 0)), none, (some 7), []⟩]
def m13r10 : List MOper := [⟨.faddr 3 (.tmp 3), none, (some 32), [3]⟩,
  ⟨.load none (.tmp 32), none, (some 33), [32]⟩]
def m13r11 : List MOper := [⟨.mv (.lit (.int .i64 1)), none, (some 7), []⟩]
def m13r12 : List MOper := [⟨.mv (.tmp 6), none, (some 34), [6]⟩,
  ⟨.mv (.tmp 7), none, (some 35), [7]⟩,
  ⟨.faddr 5 (.tmp 3), none, (some 37), [3]⟩,
  ⟨.load none (.tmp 37), none, (some 38), [37]⟩]
def m13r13 : List MOper := [⟨.call 34 [(.tmp 34), (.tmp 35), (.lit (.int .i64 1))], none, (some 36), [34, 35]⟩,
  ⟨.call 34 [(.tmp 36), (.tmp 38), (.lit (.int .i64 4))], none, (some 39), [36, 38]⟩,
  ⟨.mv (.tmp 39), none, (some 6), [39]⟩]
def m13r14 : List MOper := [⟨.load none (.tmp 37), none, (some 38), [37]⟩]
def m13r15 : List MOper := [⟨.load none (.tmp 37), none, (some 38), [37]⟩]
def m13r16 : List MOper := [⟨.mv (.tmp 6), none, (some 40), [6]⟩,
  ⟨.faddr 6 (.tmp 3), none, (some 41), [3]⟩,
  ⟨.load none (.tmp 41), none, (some 42), [41]⟩,
  ⟨.faddr 7 (.tmp 3), none, (some 44), [3]⟩,
  ⟨.load none (.tmp 44), none, (some 45), [44]⟩]
def m13r17 : List MOper := [⟨.call 33 [(.tmp 40), (.tmp 42)], none, (some 43), [40, 42]⟩,
  ⟨.call 34 [(.tmp 43), (.tmp 45), (.lit (.int .i64 4))], none, (some 46), [43, 45]⟩,
  ⟨.mv (.tmp 46), none, (some 6), [46]⟩]
def m13r18 : List MOper := [⟨.load none (.tmp 44), none, (some 45), [44]⟩]
def m13r19 : List MOper := [⟨.load none (.tmp 44), none, (some 45), [44]⟩]
def m13r20 : List MOper := [⟨.mv (.tmp 6), none, (some 47), [6]⟩,
  ⟨.faddr 4 (.tmp 3), none, (some 48), [3]⟩,
  ⟨.load none (.tmp 48), none, (some 49), [48]⟩,
  ⟨.len 1 (.tmp 49), none, (some 50), [49]⟩,
  ⟨.call 34 [(.tmp 47), (.tmp 50), (.lit (.int .i64 1))], none, (some 51), [47, 50]⟩,
  ⟨.mv (.tmp 51), none, (some 6), [51]⟩]
def m13r21 : List MOper := [⟨.faddr 4 (.tmp 3), none, (some 52), [3]⟩,
  ⟨.load none (.tmp 52), none, (some 53), [52]⟩,
  ⟨.len 1 (.tmp 53), none, (some 54), [53]⟩,
  ⟨.mv (.lit (.int .i64 0)), none, (some 55), []⟩]
def m13r22 : List MOper := [⟨.bin .lss .other (.tmp 55) (.tmp 54), none, (some 56), [55, 54]⟩]
def m13r23 : List MOper := [⟨.iaddr 3 (.tmp 53) (.tmp 55), none, (some 57), [53, 55]⟩,
  ⟨.load (some 3) (.tmp 57), none, (some 58), [57]⟩,
  ⟨.zbox [(.str []), (.int .i64 0), (.int .i64 0)], none, (some 9), []⟩,
  ⟨.store 3 (.tmp 9) (.tmp 58), none, none, [9, 58]⟩]
def m13r24 : List MOper := [⟨.mv (.tmp 6), none, (some 59), [6]⟩,
  ⟨.faddr 0 (.tmp 9), none, (some 60), [9]⟩,
  ⟨.load none (.tmp 60), none, (some 61), [60]⟩,
  ⟨.faddr 1 (.tmp 9), none, (some 63), [9]⟩,
  ⟨.load none (.tmp 63), none, (some 64), [63]⟩,
  ⟨.faddr 2 (.tmp 9), none, (some 66), [9]⟩,
  ⟨.load none (.tmp 66), none, (some 67), [66]⟩]
def m13r25 : List MOper := [⟨.call 33 [(.tmp 59), (.tmp 61)], none, (some 62), [59, 61]⟩,
  ⟨.call 34 [(.tmp 62), (.tmp 64), (.lit (.int .i64 2))], none, (some 65), [62, 64]⟩,
  ⟨.call 34 [(.tmp 65), (.tmp 67), (.lit (.int .i64 4))], none, (some 68), [65, 67]⟩,
  ⟨.mv (.tmp 68), none, (some 6), [68]⟩]
def m13r26 : List MOper := [⟨.load none (.tmp 63), none, (some 64), [63]⟩,
  ⟨.load none (.tmp 66), none, (some 67), [66]⟩]
def m13r27 : List MOper := [⟨.load none (.tmp 63), none, (some 64), [63]⟩,
  ⟨.load none (.tmp 66), none, (some 67), [66]⟩]
def m13r28 : List MOper := [⟨.load none (.tmp 66), none, (some 67), [66]⟩]
def m13r29 : List MOper := [⟨.bin .add .other (.tmp 55) (.lit (.int .i64 1)), none, (some 69), [55]⟩,
  ⟨.mv (.tmp 69), none, (some 55), [69]⟩]
def m13l30 : MCode := (.seq (.region m13r22 [3, 6, 53, 54, 55, 56])
  (.seq (.cond (.tmp 56)
  .skip
  (.exit 0))
  (.seq (.block 1 (.seq (.region m13r23 [3, 6, 9, 53, 54, 55])
  (.dregion m13r24 m13r25 [m13r26, m13r27, m13r28, [], []] [3, 6, 53, 54, 55])))
  (.region m13r29 [3, 6, 53, 54, 55]))))
def m13r31 : List MOper := [⟨.mv (.tmp 6), none, (some 70), [6]⟩,
  ⟨.faddr 8 (.tmp 3), none, (some 71), [3]⟩,
  ⟨.load none (.tmp 71), none, (some 72), [71]⟩,
  ⟨.len 1 (.tmp 72), none, (some 73), [72]⟩,
  ⟨.call 34 [(.tmp 70), (.tmp 73), (.lit (.int .i64 1))], none, (some 74), [70, 73]⟩,
  ⟨.mv (.tmp 74), none, (some 6), [74]⟩]
def m13r32 : List MOper := [⟨.faddr 8 (.tmp 3), none, (some 75), [3]⟩,
  ⟨.load none (.tmp 75), none, (some 76), [75]⟩,
  ⟨.len 1 (.tmp 76), none, (some 77), [76]⟩,
  ⟨.mv (.lit (.int .i64 0)), none, (some 78), []⟩]
def m13r33 : List MOper := [⟨.bin .lss .other (.tmp 78) (.tmp 77), none, (some 79), [78, 77]⟩]
def m13r34 : List MOper := [⟨.iaddr 1 (.tmp 76) (.tmp 78), none, (some 80), [76, 78]⟩,
  ⟨.load none (.tmp 80), none, (some 81), [80]⟩,
  ⟨.mv (.tmp 81), none, (some 11), [81]⟩]
def m13r35 : List MOper := [⟨.mv (.tmp 6), none, (some 82), [6]⟩,
  ⟨.mv (.tmp 11), none, (some 83), [11]⟩,
  ⟨.call 33 [(.tmp 82), (.tmp 83)], none, (some 84), [82, 83]⟩,
  ⟨.mv (.tmp 84), none, (some 6), [84]⟩]
def m13r36 : List MOper := [⟨.bin .add .other (.tmp 78) (.lit (.int .i64 1)), none, (some 85), [78]⟩,
  ⟨.mv (.tmp 85), none, (some 78), [85]⟩]
def m13l37 : MCode := (.seq (.region m13r33 [6, 76, 77, 78, 79])
  (.seq (.cond (.tmp 79)
  .skip
  (.exit 2))
  (.seq (.block 3 (.seq (.region m13r34 [6, 11, 76, 77, 78])
  (.region m13r35 [6, 76, 77, 78])))
  (.region m13r36 [6, 76, 77, 78]))))
def m13r38 : List MOper := [⟨.mv (.tmp 6), none, (some 86), [6]⟩,
  ⟨.len 1 (.tmp 86), none, (some 87), [86]⟩,
  ⟨.bin .gtr .other (.tmp 87) (.lit (.int .i64 4096)), none, (some 88), [87]⟩]
def m13r39 : List MOper := [⟨.mv (.lit .nils), none, (some 4), []⟩,
  ⟨.mv (.lit (.int .u8 4)), none, (some 5), []⟩]
def m13r40 : List MOper := [⟨.mv (.tmp 6), none, (some 89), [6]⟩,
  ⟨.mv (.tmp 89), none, (some 4), [89]⟩,
  ⟨.mv (.lit (.int .u8 0)), none, (some 5), []⟩]
def m13 : MFunc := ⟨90, [.tmp 4, .tmp 5],
  (.seq (.region m13r0 [0, 3])
  (.seq (.seq (.region m13r1 [0, 3, 19])
  (.cond (.tmp 19)
  (.seq (.region m13r2 [4, 5])
  .ret)
  .skip))
  (.seq (.dregion m13r3 m13r4 [m13r5, m13r6, m13r7, [], []] [3, 6])
  (.seq (.region m13r8 [3, 6])
  (.seq (.region m13r9 [3, 6, 7])
  (.seq (.seq (.region m13r10 [3, 6, 7, 33])
  (.cond (.tmp 33)
  (.region m13r11 [3, 6, 7])
  .skip))
  (.seq (.dregion m13r12 m13r13 [m13r14, m13r15, [], []] [3, 6])
  (.seq (.dregion m13r16 m13r17 [m13r18, m13r19, [], []] [3, 6])
  (.seq (.region m13r20 [3, 6])
  (.seq (.seq (.region m13r21 [3, 6, 53, 54, 55])
  (.block 0 (.loop [3, 6, 53, 54, 55] m13l30)))
  (.seq (.region m13r31 [3, 6])
  (.seq (.seq (.region m13r32 [6, 76, 77, 78])
  (.block 2 (.loop [6, 76, 77, 78] m13l37)))
  (.seq (.seq (.region m13r38 [6, 88])
  (.cond (.tmp 88)
  (.seq (.region m13r39 [4, 5])
  .ret)
  .skip))
  (.seq (.region m13r40 [4, 5])
  .ret))))))))))))))⟩
def h13 : List RH := [⟨[0, 3], 0, false, []⟩, ⟨[0, 3, 19], 0, false, []⟩, ⟨[4, 5], 0, false, []⟩, ⟨[3, 6], 5, false, [0, 2, 3, 5, 6, 1, 4, 7, 8]⟩, ⟨[3, 6], 0, false, []⟩, ⟨[3, 6, 7], 0, false, []⟩, ⟨[3, 6, 7, 33], 0, false, []⟩, ⟨[3, 6, 7], 0, false, []⟩, ⟨[3, 6], 4, false, [0, 1, 3, 4, 2, 5, 6]⟩, ⟨[3, 6], 5, false, [0, 1, 2, 4, 5, 3, 6, 7]⟩, ⟨[3, 6], 0, false, []⟩, ⟨[3, 6, 53, 54, 55], 0, false, []⟩, ⟨[3, 6, 53, 54, 55], 0, false, []⟩, ⟨[3, 6, 53, 54, 55, 56], 0, false, []⟩, ⟨[3, 6, 9, 53, 54, 55], 0, false, []⟩, ⟨[3, 6, 53, 54, 55], 7, false, [0, 1, 2, 4, 5, 7, 8, 3, 6, 9, 10]⟩, ⟨[3, 6, 53, 54, 55], 0, false, []⟩, ⟨[3, 6], 0, false, []⟩, ⟨[6, 76, 77, 78], 0, false, []⟩, ⟨[6, 76, 77, 78], 0, false, []⟩, ⟨[6, 76, 77, 78, 79], 0, false, []⟩, ⟨[6, 11, 76, 77, 78], 0, false, []⟩, ⟨[6, 76, 77, 78], 0, false, []⟩, ⟨[6, 76, 77, 78], 0, false, []⟩, ⟨[6, 88], 0, false, []⟩, ⟨[4, 5], 0, false, []⟩, ⟨[4, 5], 0, false, []⟩]
theorem m13_ok : cmpFn Try.prog 13 h13 = some m13 := by kernel_rfl

/- dialtone/dialtoneref22.EncodeAct -/
def m14r0 : List MOper := [⟨.box 9 (.tmp 1), none, (some 3), [1]⟩,
  ⟨.mv (.lit .nils), none, (some 4), []⟩,
  ⟨.mv (.lit (.int .u8 0)), none, (some 5), []⟩]
def m14r1 : List MOper := [⟨.load (some 9) (.tmp 3), none, (some 9), [3]⟩,
  ⟨.call 12 [(.tmp 9)], none, (some 10), [9]⟩,
  ⟨.un .not (.tmp 10), none, (some 11), [10]⟩,
  ⟨.mv (.tmp 11), none, (some 12), [11]⟩,
  ⟨.mv (.tmp 0), (some (12, false)), (some 13), [0]⟩,
  ⟨.call 28 [(.tmp 13), (.lit (.int .i64 0)), (.lit (.int .i64 1099511627776))], (some (12, false)), (some 14), [13]⟩,
  ⟨.un .not (.tmp 14), (some (12, false)), (some 15), [14]⟩,
  ⟨.pick (.tmp 12) (.lit (.bool true)) (.tmp 15), none, (some 16), [12, 15]⟩]
def m14r2 : List MOper := [⟨.mv (.lit .nils), none, (some 4), []⟩,
  ⟨.mv (.lit (.int .u8 2)), none, (some 5), []⟩]
def m14r3 : List MOper := [⟨.mv (.tmp 0), none, (some 17), [0]⟩,
  ⟨.call 35 [(.tmp 17), (.lit (.int .i64 8))], none, (some 18), [17]⟩,
  ⟨.mv (.tmp 18), none, (some 6), [18]⟩]
def m14r4 : List MOper := [⟨.mv (.tmp 6), none, (some 19), [6]⟩,
  ⟨.faddr 0 (.tmp 3), none, (some 20), [3]⟩,
  ⟨.load none (.tmp 20), none, (some 21), [20]⟩,
  ⟨.call 36 [(.tmp 21)], none, (some 22), [21]⟩,
  ⟨.append 1 1 (.tmp 19) (.tmp 22), none, (some 23), [19, 22]⟩,
  ⟨.mv (.tmp 23), none, (some 6), [23]⟩]
def m14r5 : List MOper := [⟨.mv (.tmp 6), none, (some 24), [6]⟩,
  ⟨.faddr 1 (.tmp 3), none, (some 25), [3]⟩,
  ⟨.load none (.tmp 25), none, (some 26), [25]⟩,
  ⟨.call 36 [(.tmp 26)], none, (some 27), [26]⟩,
  ⟨.append 1 1 (.tmp 24) (.tmp 27), none, (some 28), [24, 27]⟩,
  ⟨.mv (.tmp 28), none, (some 6), [28]⟩]
def m14r6 : List MOper := [⟨.mv (.tmp 6), none, (some 29), [6]⟩,
  ⟨.faddr 2 (.tmp 3), none, (some 30), [3]⟩,
  ⟨.load none (.tmp 30), none, (some 31), [30]⟩,
  ⟨.call 35 [(.tmp 31), (.lit (.int .i64 4))], none, (some 32), [31]⟩,
  ⟨.append 1 1 (.tmp 29) (.tmp 32), none, (some 33), [29, 32]⟩,
  ⟨.mv (.tmp 33), none, (some 6), [33]⟩]
def m14r7 : List MOper := [⟨.faddr 3 (.tmp 3), none, (some 34), [3]⟩,
  ⟨.load none (.tmp 34), none, (some 35), [34]⟩]
def m14r8 : List MOper := [⟨.mv (.tmp 6), none, (some 36), [6]⟩,
  ⟨.mkfrz [(.int .u8 0)] 1 [(0, (.lit (.int .u8 1)))], none, (some 37), []⟩,
  ⟨.append 1 1 (.tmp 36) (.tmp 37), none, (some 38), [36, 37]⟩,
  ⟨.mv (.tmp 38), none, (some 6), [38]⟩]
def m14r9 : List MOper := [⟨.mv (.tmp 6), none, (some 39), [6]⟩,
  ⟨.mkfrz [(.int .u8 0)] 1 [(0, (.lit (.int .u8 0)))], none, (some 40), []⟩,
  ⟨.append 1 1 (.tmp 39) (.tmp 40), none, (some 41), [39, 40]⟩,
  ⟨.mv (.tmp 41), none, (some 6), [41]⟩]
def m14r10 : List MOper := [⟨.mv (.tmp 6), none, (some 42), [6]⟩,
  ⟨.faddr 5 (.tmp 3), none, (some 43), [3]⟩,
  ⟨.load none (.tmp 43), none, (some 44), [43]⟩,
  ⟨.call 35 [(.tmp 44), (.lit (.int .i64 4))], none, (some 45), [44]⟩,
  ⟨.append 1 1 (.tmp 42) (.tmp 45), none, (some 46), [42, 45]⟩,
  ⟨.mv (.tmp 46), none, (some 6), [46]⟩]
def m14r11 : List MOper := [⟨.mv (.tmp 6), none, (some 47), [6]⟩,
  ⟨.faddr 6 (.tmp 3), none, (some 48), [3]⟩,
  ⟨.load none (.tmp 48), none, (some 49), [48]⟩,
  ⟨.call 36 [(.tmp 49)], none, (some 50), [49]⟩,
  ⟨.append 1 1 (.tmp 47) (.tmp 50), none, (some 51), [47, 50]⟩,
  ⟨.mv (.tmp 51), none, (some 6), [51]⟩]
def m14r12 : List MOper := [⟨.mv (.tmp 6), none, (some 52), [6]⟩,
  ⟨.faddr 7 (.tmp 3), none, (some 53), [3]⟩,
  ⟨.load none (.tmp 53), none, (some 54), [53]⟩,
  ⟨.call 35 [(.tmp 54), (.lit (.int .i64 4))], none, (some 55), [54]⟩,
  ⟨.append 1 1 (.tmp 52) (.tmp 55), none, (some 56), [52, 55]⟩,
  ⟨.mv (.tmp 56), none, (some 6), [56]⟩]
def m14r13 : List MOper := [⟨.mv (.tmp 6), none, (some 57), [6]⟩,
  ⟨.faddr 4 (.tmp 3), none, (some 58), [3]⟩,
  ⟨.load none (.tmp 58), none, (some 59), [58]⟩,
  ⟨.len 1 (.tmp 59), none, (some 60), [59]⟩,
  ⟨.conv .u8 (.tmp 60), none, (some 61), [60]⟩,
  ⟨.mkfrz [(.int .u8 0)] 1 [(0, (.tmp 61))], none, (some 62), [61]⟩,
  ⟨.append 1 1 (.tmp 57) (.tmp 62), none, (some 63), [57, 62]⟩,
  ⟨.mv (.tmp 63), none, (some 6), [63]⟩]
def m14r14 : List MOper := [⟨.mv (.lit (.int .i64 0)), none, (some 7), []⟩]
def m14r15 : List MOper := [⟨.mv (.tmp 7), none, (some 64), [7]⟩,
  ⟨.faddr 4 (.tmp 3), none, (some 65), [3]⟩,
  ⟨.load none (.tmp 65), none, (some 66), [65]⟩,
  ⟨.len 1 (.tmp 66), none, (some 67), [66]⟩,
  ⟨.bin .lss .other (.tmp 64) (.tmp 67), none, (some 68), [64, 67]⟩]
def m14r16 : List MOper := [⟨.mv (.tmp 6), none, (some 71), [6]⟩,
  ⟨.faddr 4 (.tmp 3), none, (some 72), [3]⟩,
  ⟨.load none (.tmp 72), none, (some 73), [72]⟩,
  ⟨.mv (.tmp 7), none, (some 74), [7]⟩,
  ⟨.iaddr 3 (.tmp 73) (.tmp 74), none, (some 75), [73, 74]⟩,
  ⟨.faddr 0 (.tmp 75), none, (some 76), [75]⟩,
  ⟨.load none (.tmp 76), none, (some 77), [76]⟩,
  ⟨.call 36 [(.tmp 77)], none, (some 78), [77]⟩,
  ⟨.append 1 1 (.tmp 71) (.tmp 78), none, (some 79), [71, 78]⟩,
  ⟨.mv (.tmp 79), none, (some 6), [79]⟩]
def m14r17 : List MOper := [⟨.mv (.tmp 6), none, (some 80), [6]⟩,
  ⟨.faddr 4 (.tmp 3), none, (some 81), [3]⟩,
  ⟨.load none (.tmp 81), none, (some 82), [81]⟩,
  ⟨.mv (.tmp 7), none, (some 83), [7]⟩,
  ⟨.iaddr 3 (.tmp 82) (.tmp 83), none, (some 84), [82, 83]⟩,
  ⟨.faddr 1 (.tmp 84), none, (some 85), [84]⟩,
  ⟨.load none (.tmp 85), none, (some 86), [85]⟩,
  ⟨.call 35 [(.tmp 86), (.lit (.int .i64 2))], none, (some 87), [86]⟩,
  ⟨.append 1 1 (.tmp 80) (.tmp 87), none, (some 88), [80, 87]⟩,
  ⟨.mv (.tmp 88), none, (some 6), [88]⟩]
def m14r18 : List MOper := [⟨.mv (.tmp 6), none, (some 89), [6]⟩,
  ⟨.faddr 4 (.tmp 3), none, (some 90), [3]⟩,
  ⟨.load none (.tmp 90), none, (some 91), [90]⟩,
  ⟨.mv (.tmp 7), none, (some 92), [7]⟩,
  ⟨.iaddr 3 (.tmp 91) (.tmp 92), none, (some 93), [91, 92]⟩,
  ⟨.faddr 2 (.tmp 93), none, (some 94), [93]⟩,
  ⟨.load none (.tmp 94), none, (some 95), [94]⟩,
  ⟨.call 35 [(.tmp 95), (.lit (.int .i64 4))], none, (some 96), [95]⟩,
  ⟨.append 1 1 (.tmp 89) (.tmp 96), none, (some 97), [89, 96]⟩,
  ⟨.mv (.tmp 97), none, (some 6), [97]⟩]
def m14r19 : List MOper := [⟨.mv (.tmp 7), none, (some 69), [7]⟩,
  ⟨.bin .add .other (.tmp 69) (.lit (.int .i64 1)), none, (some 70), [69]⟩,
  ⟨.mv (.tmp 70), none, (some 7), [70]⟩]
def m14l20 : MCode := (.seq (.seq (.region m14r15 [3, 6, 7, 68])
  (.cond (.tmp 68)
  .skip
  (.exit 0)))
  (.seq (.block 1 (.seq (.region m14r16 [3, 6, 7])
  (.seq (.region m14r17 [3, 6, 7])
  (.region m14r18 [3, 6, 7]))))
  (.region m14r19 [3, 6, 7])))
def m14r21 : List MOper := [⟨.mv (.tmp 6), none, (some 98), [6]⟩,
  ⟨.faddr 8 (.tmp 3), none, (some 99), [3]⟩,
  ⟨.load none (.tmp 99), none, (some 100), [99]⟩,
  ⟨.len 1 (.tmp 100), none, (some 101), [100]⟩,
  ⟨.conv .u8 (.tmp 101), none, (some 102), [101]⟩,
  ⟨.mkfrz [(.int .u8 0)] 1 [(0, (.tmp 102))], none, (some 103), [102]⟩,
  ⟨.append 1 1 (.tmp 98) (.tmp 103), none, (some 104), [98, 103]⟩,
  ⟨.mv (.tmp 104), none, (some 6), [104]⟩]
def m14r22 : List MOper := [⟨.mv (.lit (.int .i64 0)), none, (some 8), []⟩]
def m14r23 : List MOper := [⟨.mv (.tmp 8), none, (some 105), [8]⟩,
  ⟨.faddr 8 (.tmp 3), none, (some 106), [3]⟩,
  ⟨.load none (.tmp 106), none, (some 107), [106]⟩,
  ⟨.len 1 (.tmp 107), none, (some 108), [107]⟩,
  ⟨.bin .lss .other (.tmp 105) (.tmp 108), none, (some 109), [105, 108]⟩]
def m14r24 : List MOper := [⟨.mv (.tmp 6), none, (some 112), [6]⟩,
  ⟨.faddr 8 (.tmp 3), none, (some 113), [3]⟩,
  ⟨.load none (.tmp 113), none, (some 114), [113]⟩,
  ⟨.mv (.tmp 8), none, (some 115), [8]⟩,
  ⟨.iaddr 1 (.tmp 114) (.tmp 115), none, (some 116), [114, 115]⟩,
  ⟨.load none (.tmp 116), none, (some 117), [116]⟩,
  ⟨.call 36 [(.tmp 117)], none, (some 118), [117]⟩,
  ⟨.append 1 1 (.tmp 112) (.tmp 118), none, (some 119), [112, 118]⟩,
  ⟨.mv (.tmp 119), none, (some 6), [119]⟩]
def m14r25 : List MOper := [⟨.mv (.tmp 8), none, (some 110), [8]⟩,
  ⟨.bin .add .other (.tmp 110) (.lit (.int .i64 1)), none, (some 111), [110]⟩,
  ⟨.mv (.tmp 111), none, (some 8), [111]⟩]
def m14l26 : MCode := (.seq (.seq (.region m14r23 [3, 6, 8, 109])
  (.cond (.tmp 109)
  .skip
  (.exit 2)))
  (.seq (.block 3 (.region m14r24 [3, 6, 8]))
  (.region m14r25 [3, 6, 8])))
def m14r27 : List MOper := [⟨.mv (.tmp 6), none, (some 120), [6]⟩,
  ⟨.len 1 (.tmp 120), none, (some 121), [120]⟩,
  ⟨.bin .gtr .other (.tmp 121) (.lit (.int .i64 4096)), none, (some 122), [121]⟩]
def m14r28 : List MOper := [⟨.mv (.lit .nils), none, (some 4), []⟩,
  ⟨.mv (.lit (.int .u8 4)), none, (some 5), []⟩]
def m14r29 : List MOper := [⟨.mv (.tmp 6), none, (some 123), [6]⟩,
  ⟨.mv (.tmp 123), none, (some 4), [123]⟩,
  ⟨.mv (.lit (.int .u8 0)), none, (some 5), []⟩]
def m14 : MFunc := ⟨124, [.tmp 4, .tmp 5],
  (.seq (.region m14r0 [0, 3])
  (.seq (.seq (.region m14r1 [0, 3, 16])
  (.cond (.tmp 16)
  (.seq (.region m14r2 [4, 5])
  .ret)
  .skip))
  (.seq (.region m14r3 [3, 6])
  (.seq (.region m14r4 [3, 6])
  (.seq (.region m14r5 [3, 6])
  (.seq (.region m14r6 [3, 6])
  (.seq (.seq (.region m14r7 [3, 6, 35])
  (.cond (.tmp 35)
  (.region m14r8 [3, 6])
  (.region m14r9 [3, 6])))
  (.seq (.region m14r10 [3, 6])
  (.seq (.region m14r11 [3, 6])
  (.seq (.region m14r12 [3, 6])
  (.seq (.region m14r13 [3, 6])
  (.seq (.seq (.region m14r14 [3, 6, 7])
  (.block 0 (.loop [3, 6, 7] m14l20)))
  (.seq (.region m14r21 [3, 6])
  (.seq (.seq (.region m14r22 [3, 6, 8])
  (.block 2 (.loop [3, 6, 8] m14l26)))
  (.seq (.seq (.region m14r27 [6, 122])
  (.cond (.tmp 122)
  (.seq (.region m14r28 [4, 5])
  .ret)
  .skip))
  (.seq (.region m14r29 [4, 5])
  .ret))))))))))))))))⟩
def h14 : List RH := [⟨[0, 3], 0, false, []⟩, ⟨[0, 3, 16], 0, false, []⟩, ⟨[4, 5], 0, false, []⟩, ⟨[3, 6], 0, false, []⟩, ⟨[3, 6], 0, false, []⟩, ⟨[3, 6], 0, false, []⟩, ⟨[3, 6], 0, false, []⟩, ⟨[3, 6, 35], 0, false, []⟩, ⟨[3, 6], 0, false, []⟩, ⟨[3, 6], 0, false, []⟩, ⟨[3, 6], 0, false, []⟩, ⟨[3, 6], 0, false, []⟩, ⟨[3, 6], 0, false, []⟩, ⟨[3, 6], 0, false, []⟩, ⟨[3, 6, 7], 0, false, []⟩, ⟨[3, 6, 7], 0, false, []⟩, ⟨[3, 6, 7, 68], 0, false, []⟩, ⟨[3, 6, 7], 0, false, []⟩, ⟨[3, 6, 7], 0, false, []⟩, ⟨[3, 6, 7], 0, false, []⟩, ⟨[3, 6, 7], 0, false, []⟩, ⟨[3, 6], 0, false, []⟩, ⟨[3, 6, 8], 0, false, []⟩, ⟨[3, 6, 8], 0, false, []⟩, ⟨[3, 6, 8, 109], 0, false, []⟩, ⟨[3, 6, 8], 0, false, []⟩, ⟨[3, 6, 8], 0, false, []⟩, ⟨[6, 122], 0, false, []⟩, ⟨[4, 5], 0, false, []⟩, ⟨[4, 5], 0, false, []⟩]
theorem m14_ok : cmpFn Try.prog 14 h14 = some m14 := by kernel_rfl

/- dialtone/registrar.DecodeAct -/
def m15r0 : List MOper := [⟨.box 1 (.tmp 0), none, (some 1), [0]⟩,
  ⟨.mv (.lit (.int .i64 0)), none, (some 2), []⟩,
  ⟨.zbox [(.str []), (.str []), (.int .i64 0), (.bool false), .nils, (.int .i64 0), (.str []), (.int .i64 0), .nils], none, (some 3), []⟩,
  ⟨.mv (.lit (.int .u8 0)), none, (some 4), []⟩]
def m15r1 : List MOper := [⟨.zbox [(.bool false)], none, (some 5), []⟩,
  ⟨.store 1 (.tmp 5) (.lit (.bool false)), none, none, [5]⟩]
def m15r2 : List MOper := [⟨.mkfn 37 [] [(.tmp 5), (.tmp 1)], none, (some 14), [5, 1]⟩,
  ⟨.zbox [.nilf], none, (some 6), []⟩,
  ⟨.store 1 (.tmp 6) (.tmp 14), none, none, [6, 14]⟩]
def m15r3 : List MOper := [⟨.mkfn 38 [] [(.tmp 6), (.tmp 5), (.tmp 1)], none, (some 15), [6, 5, 1]⟩,
  ⟨.mv (.tmp 15), none, (some 7), [15]⟩]
def m15r4 : List MOper := [⟨.mkfn 39 [] [(.tmp 6)], none, (some 16), [6]⟩,
  ⟨.mv (.tmp 16), none, (some 8), [16]⟩]
def m15r5 : List MOper := [⟨.load none (.tmp 6), none, (some 17), [6]⟩,
  ⟨.callv (.tmp 17) [(.lit (.int .i64 8))], none, (some 18), [17]⟩,
  ⟨.mv (.tmp 18), none, (some 9), [18]⟩]
def m15r6 : List MOper := [⟨.mv (.tmp 7), none, (some 19), [7]⟩,
  ⟨.callv (.tmp 19) [], none, (some 20), [19]⟩,
  ⟨.mv (.tmp 7), none, (some 21), [7]⟩,
  ⟨.callv (.tmp 21) [], none, (some 22), [21]⟩,
  ⟨.mv (.tmp 8), none, (some 23), [8]⟩,
  ⟨.callv (.tmp 23) [], none, (some 24), [23]⟩,
  ⟨.build [(.str []), (.str []), (.int .i64 0), (.bool false), .nils, (.int .i64 0), (.str []), (.int .i64 0), .nils] [(0, 1, (.tmp 20)), (1, 1, (.tmp 22)), (2, 1, (.tmp 24))], none, (some 25), [20, 22, 24]⟩,
  ⟨.zbox [(.str []), (.str []), (.int .i64 0), (.bool false), .nils, (.int .i64 0), (.str []), (.int .i64 0), .nils], none, (some 10), []⟩,
  ⟨.store 9 (.tmp 10) (.tmp 25), none, none, [10, 25]⟩]
def m15r7 : List MOper := [⟨.load none (.tmp 6), none, (some 26), [6]⟩,
  ⟨.callv (.tmp 26) [(.lit (.int .i64 1))], none, (some 27), [26]⟩,
  ⟨.mv (.tmp 27), none, (some 11), [27]⟩]
def m15r8 : List MOper := [⟨.mv (.tmp 11), none, (some 28), [11]⟩,
  ⟨.bin .eql .other (.tmp 28) (.lit (.int .i64 1)), none, (some 29), [28]⟩,
  ⟨.faddr 3 (.tmp 10), none, (some 30), [10]⟩,
  ⟨.store 1 (.tmp 30) (.tmp 29), none, none, [30, 29]⟩]
def m15r9 : List MOper := [⟨.mv (.tmp 8), none, (some 31), [8]⟩,
  ⟨.callv (.tmp 31) [], none, (some 32), [31]⟩,
  ⟨.mv (.tmp 7), none, (some 33), [7]⟩,
  ⟨.callv (.tmp 33) [], none, (some 34), [33]⟩,
  ⟨.mv (.tmp 8), none, (some 35), [8]⟩,
  ⟨.callv (.tmp 35) [], none, (some 36), [35]⟩,
  ⟨.faddr 5 (.tmp 10), none, (some 37), [10]⟩,
  ⟨.store 1 (.tmp 37) (.tmp 32), none, none, [37, 32]⟩,
  ⟨.faddr 6 (.tmp 10), none, (some 38), [10]⟩,
  ⟨.store 1 (.tmp 38) (.tmp 34), none, none, [38, 34]⟩,
  ⟨.faddr 7 (.tmp 10), none, (some 39), [10]⟩,
  ⟨.store 1 (.tmp 39) (.tmp 36), none, none, [39, 36]⟩]
def m15r10 : List MOper := [⟨.load none (.tmp 6), none, (some 40), [6]⟩,
  ⟨.callv (.tmp 40) [(.lit (.int .i64 1))], none, (some 41), [40]⟩,
  ⟨.mv (.tmp 41), none, (some 12), [41]⟩]
def m15r11 : List MOper := [⟨.mv (.tmp 12), none, (some 42), [12]⟩,
  ⟨.bin .gtr .other (.tmp 42) (.lit (.int .i64 0)), none, (some 43), [42]⟩,
  ⟨.mv (.tmp 43), none, (some 44), [43]⟩,
  ⟨.load none (.tmp 5), (some (44, true)), (some 45), [5]⟩,
  ⟨.un .not (.tmp 45), (some (44, true)), (some 46), [45]⟩,
  ⟨.pick (.tmp 44) (.tmp 46) (.lit (.bool false)), none, (some 47), [44, 46]⟩]
def m15r12 : List MOper := [⟨.faddr 4 (.tmp 10), none, (some 50), [10]⟩,
  ⟨.load none (.tmp 50), none, (some 51), [50]⟩,
  ⟨.mv (.tmp 7), none, (some 52), [7]⟩,
  ⟨.load none (.tmp 6), none, (some 54), [6]⟩,
  ⟨.mv (.tmp 8), none, (some 56), [8]⟩]
def m15r13 : List MOper := [⟨.callv (.tmp 52) [], none, (some 53), [52]⟩,
  ⟨.callv (.tmp 54) [(.lit (.int .i64 2))], none, (some 55), [54]⟩,
  ⟨.callv (.tmp 56) [], none, (some 57), [56]⟩,
  ⟨.build [(.str []), (.int .i64 0), (.int .i64 0)] [(0, 1, (.tmp 53)), (1, 1, (.tmp 55)), (2, 1, (.tmp 57))], none, (some 58), [53, 55, 57]⟩,
  ⟨.mkfrz [(.str []), (.int .i64 0), (.int .i64 0)] 1 [(0, (.tmp 58))], none, (some 59), [58]⟩,
  ⟨.append 3 32 (.tmp 51) (.tmp 59), none, (some 60), [51, 59]⟩,
  ⟨.faddr 4 (.tmp 10), none, (some 61), [10]⟩,
  ⟨.store 1 (.tmp 61) (.tmp 60), none, none, [61, 60]⟩]
def m15r14 : List MOper := [⟨.load none (.tmp 50), none, (some 51), [50]⟩,
  ⟨.load none (.tmp 6), none, (some 54), [6]⟩]
def m15r15 : List MOper := [⟨.load none (.tmp 50), none, (some 51), [50]⟩,
  ⟨.load none (.tmp 6), none, (some 54), [6]⟩]
def m15r16 : List MOper := [⟨.load none (.tmp 50), none, (some 51), [50]⟩]
def m15r17 : List MOper := [⟨.load none (.tmp 50), none, (some 51), [50]⟩]
def m15r18 : List MOper := [⟨.load none (.tmp 50), none, (some 51), [50]⟩]
def m15r19 : List MOper := [⟨.load none (.tmp 50), none, (some 51), [50]⟩]
def m15r20 : List MOper := [⟨.mv (.tmp 12), none, (some 48), [12]⟩,
  ⟨.bin .sub .other (.tmp 48) (.lit (.int .i64 1)), none, (some 49), [48]⟩,
  ⟨.mv (.tmp 49), none, (some 12), [49]⟩]
def m15l21 : MCode := (.seq (.seq (.region m15r11 [1, 3, 5, 6, 7, 8, 9, 10, 11, 12, 47])
  (.cond (.tmp 47)
  .skip
  (.exit 0)))
  (.seq (.block 1 (.dregion m15r12 m15r13 [m15r14, m15r15, m15r16, m15r17, m15r18, m15r19, [], [], []] [1, 3, 5, 6, 7, 8, 9, 10, 11, 12]))
  (.region m15r20 [1, 3, 5, 6, 7, 8, 9, 10, 11, 12])))
def m15r22 : List MOper := [⟨.load none (.tmp 6), none, (some 62), [6]⟩,
  ⟨.callv (.tmp 62) [(.lit (.int .i64 1))], none, (some 63), [62]⟩,
  ⟨.mv (.tmp 63), none, (some 13), [63]⟩]
def m15r23 : List MOper := [⟨.mv (.tmp 13), none, (some 64), [13]⟩,
  ⟨.bin .gtr .other (.tmp 64) (.lit (.int .i64 0)), none, (some 65), [64]⟩,
  ⟨.mv (.tmp 65), none, (some 66), [65]⟩,
  ⟨.load none (.tmp 5), (some (66, true)), (some 67), [5]⟩,
  ⟨.un .not (.tmp 67), (some (66, true)), (some 68), [67]⟩,
  ⟨.pick (.tmp 66) (.tmp 68) (.lit (.bool false)), none, (some 69), [66, 68]⟩]
def m15r24 : List MOper := [⟨.faddr 8 (.tmp 10), none, (some 72), [10]⟩,
  ⟨.load none (.tmp 72), none, (some 73), [72]⟩]
def m15r25 : List MOper := [⟨.mv (.tmp 7), none, (some 74), [7]⟩,
  ⟨.callv (.tmp 74) [], none, (some 75), [74]⟩,
  ⟨.mkfrz [(.str [])] 1 [(0, (.tmp 75))], none, (some 76), [75]⟩,
  ⟨.append 1 16 (.tmp 73) (.tmp 76), none, (some 77), [73, 76]⟩,
  ⟨.faddr 8 (.tmp 10), none, (some 78), [10]⟩,
  ⟨.store 1 (.tmp 78) (.tmp 77), none, none, [78, 77]⟩]
def m15r26 : List MOper := [⟨.load none (.tmp 72), none, (some 73), [72]⟩]
def m15r27 : List MOper := [⟨.load none (.tmp 72), none, (some 73), [72]⟩]
def m15r28 : List MOper := [⟨.load none (.tmp 72), none, (some 73), [72]⟩]
def m15r29 : List MOper := [⟨.load none (.tmp 72), none, (some 73), [72]⟩]
def m15r30 : List MOper := [⟨.mv (.tmp 13), none, (some 70), [13]⟩,
  ⟨.bin .sub .other (.tmp 70) (.lit (.int .i64 1)), none, (some 71), [70]⟩,
  ⟨.mv (.tmp 71), none, (some 13), [71]⟩]
def m15l31 : MCode := (.seq (.seq (.region m15r23 [1, 3, 5, 7, 9, 10, 11, 13, 69])
  (.cond (.tmp 69)
  .skip
  (.exit 2)))
  (.seq (.block 3 (.dregion m15r24 m15r25 [m15r26, m15r27, m15r28, m15r29, [], [], []] [1, 3, 5, 7, 9, 10, 11, 13]))
  (.region m15r30 [1, 3, 5, 7, 9, 10, 11, 13])))
def m15r32 : List MOper := [⟨.load none (.tmp 5), none, (some 79), [5]⟩]
def m15r33 : List MOper := [⟨.build [(.str []), (.str []), (.int .i64 0), (.bool false), .nils, (.int .i64 0), (.str []), (.int .i64 0), .nils] [], none, (some 80), []⟩,
  ⟨.mv (.lit (.int .i64 0)), none, (some 2), []⟩,
  ⟨.store 9 (.tmp 3) (.tmp 80), none, none, [3, 80]⟩,
  ⟨.mv (.lit (.int .u8 6)), none, (some 4), []⟩]
def m15r34 : List MOper := [⟨.load none (.tmp 1), none, (some 81), [1]⟩,
  ⟨.len 1 (.tmp 81), none, (some 82), [81]⟩,
  ⟨.bin .gtr .other (.tmp 82) (.lit (.int .i64 0)), none, (some 83), [82]⟩,
  ⟨.mv (.tmp 83), none, (some 84), [83]⟩,
  ⟨.mv (.tmp 11), (some (84, false)), (some 85), [11]⟩,
  ⟨.bin .gtr .other (.tmp 85) (.lit (.int .i64 1)), (some (84, false)), (some 86), [85]⟩,
  ⟨.pick (.tmp 84) (.lit (.bool true)) (.tmp 86), none, (some 87), [84, 86]⟩,
  ⟨.mv (.tmp 87), none, (some 88), [87]⟩,
  ⟨.load (some 9) (.tmp 10), (some (88, false)), (some 89), [10]⟩,
  ⟨.call 11 [(.tmp 89)], (some (88, false)), (some 90), [89]⟩,
  ⟨.un .not (.tmp 90), (some (88, false)), (some 91), [90]⟩,
  ⟨.pick (.tmp 88) (.lit (.bool true)) (.tmp 91), none, (some 92), [88, 91]⟩,
  ⟨.mv (.tmp 92), none, (some 93), [92]⟩,
  ⟨.mv (.tmp 9), (some (93, false)), (some 94), [9]⟩,
  ⟨.call 29 [(.tmp 94), (.lit (.int .i64 0)), (.lit (.int .i64 1099511627776))], (some (93, false)), (some 95), [94]⟩,
  ⟨.un .not (.tmp 95), (some (93, false)), (some 96), [95]⟩,
  ⟨.pick (.tmp 93) (.lit (.bool true)) (.tmp 96), none, (some 97), [93, 96]⟩]
def m15r35 : List MOper := [⟨.build [(.str []), (.str []), (.int .i64 0), (.bool false), .nils, (.int .i64 0), (.str []), (.int .i64 0), .nils] [], none, (some 98), []⟩,
  ⟨.mv (.lit (.int .i64 0)), none, (some 2), []⟩,
  ⟨.store 9 (.tmp 3) (.tmp 98), none, none, [3, 98]⟩,
  ⟨.mv (.lit (.int .u8 5)), none, (some 4), []⟩]
def m15r36 : List MOper := [⟨.mv (.tmp 9), none, (some 99), [9]⟩,
  ⟨.load (some 9) (.tmp 10), none, (some 100), [10]⟩]
def m15r37 : List MOper := [⟨.mv (.tmp 99), none, (some 2), [99]⟩,
  ⟨.store 9 (.tmp 3) (.tmp 100), none, none, [3, 100]⟩,
  ⟨.mv (.lit (.int .u8 0)), none, (some 4), []⟩]
def m15r38 : List MOper := [⟨.load (some 9) (.tmp 10), none, (some 100), [10]⟩]
def m15r39 : List MOper := [⟨.load (some 9) (.tmp 10), none, (some 100), [10]⟩]
def m15 : MFunc := ⟨101, [.tmp 2, .cell 3 (some 9), .tmp 4],
  (.seq (.region m15r0 [1, 3])
  (.seq (.region m15r1 [1, 3, 5])
  (.seq (.region m15r2 [1, 3, 5, 6])
  (.seq (.region m15r3 [1, 3, 5, 6, 7])
  (.seq (.region m15r4 [1, 3, 5, 6, 7, 8])
  (.seq (.region m15r5 [1, 3, 5, 6, 7, 8, 9])
  (.seq (.region m15r6 [1, 3, 5, 6, 7, 8, 9, 10])
  (.seq (.region m15r7 [1, 3, 5, 6, 7, 8, 9, 10, 11])
  (.seq (.region m15r8 [1, 3, 5, 6, 7, 8, 9, 10, 11])
  (.seq (.region m15r9 [1, 3, 5, 6, 7, 8, 9, 10, 11])
  (.seq (.seq (.region m15r10 [1, 3, 5, 6, 7, 8, 9, 10, 11, 12])
  (.block 0 (.loop [1, 3, 5, 6, 7, 8, 9, 10, 11, 12] m15l21)))
  (.seq (.seq (.region m15r22 [1, 3, 5, 7, 9, 10, 11, 13])
  (.block 2 (.loop [1, 3, 5, 7, 9, 10, 11, 13] m15l31)))
  (.seq (.seq (.region m15r32 [1, 3, 9, 10, 11, 79])
  (.cond (.tmp 79)
  (.seq (.region m15r33 [2, 3, 4])
  .ret)
  .skip))
  (.seq (.seq (.region m15r34 [3, 9, 10, 97])
  (.cond (.tmp 97)
  (.seq (.region m15r35 [2, 3, 4])
  .ret)
  .skip))
  (.seq (.dregion m15r36 m15r37 [m15r38, m15r39, [], []] [2, 3, 4])
  .ret)))))))))))))))⟩
def h15 : List RH := [⟨[1, 3], 0, false, []⟩, ⟨[1, 3, 5], 0, false, []⟩, ⟨[1, 3, 5, 6], 0, false, []⟩, ⟨[1, 3, 5, 6, 7], 0, false, []⟩, ⟨[1, 3, 5, 6, 7, 8], 0, false, []⟩, ⟨[1, 3, 5, 6, 7, 8, 9], 0, false, []⟩, ⟨[1, 3, 5, 6, 7, 8, 9, 10], 0, false, []⟩, ⟨[1, 3, 5, 6, 7, 8, 9, 10, 11], 0, false, []⟩, ⟨[1, 3, 5, 6, 7, 8, 9, 10, 11], 0, false, []⟩, ⟨[1, 3, 5, 6, 7, 8, 9, 10, 11], 0, false, []⟩, ⟨[1, 3, 5, 6, 7, 8, 9, 10, 11, 12], 0, false, []⟩, ⟨[1, 3, 5, 6, 7, 8, 9, 10, 11, 12], 0, false, []⟩, ⟨[1, 3, 5, 6, 7, 8, 9, 10, 11, 12, 47], 0, false, []⟩, ⟨[1, 3, 5, 6, 7, 8, 9, 10, 11, 12], 5, false, [0, 1, 2, 4, 6, 3, 5, 7, 8, 9, 10, 11, 12]⟩, ⟨[1, 3, 5, 6, 7, 8, 9, 10, 11, 12], 0, false, []⟩, ⟨[1, 3, 5, 7, 9, 10, 11, 13], 0, false, []⟩, ⟨[1, 3, 5, 7, 9, 10, 11, 13], 0, false, []⟩, ⟨[1, 3, 5, 7, 9, 10, 11, 13, 69], 0, false, []⟩, ⟨[1, 3, 5, 7, 9, 10, 11, 13], 2, false, []⟩, ⟨[1, 3, 5, 7, 9, 10, 11, 13], 0, false, []⟩, ⟨[1, 3, 9, 10, 11, 79], 0, false, []⟩, ⟨[2, 3, 4], 0, false, []⟩, ⟨[3, 9, 10, 97], 0, false, []⟩, ⟨[2, 3, 4], 0, false, []⟩, ⟨[2, 3, 4], 2, false, []⟩]
theorem m15_ok : cmpFn Try.prog 15 h15 = some m15 := by kernel_rfl

/- dialtone/dialtoneref22.DecodeAct -/
def m16r0 : List MOper := [⟨.mv (.lit (.int .i64 0)), none, (some 2), []⟩,
  ⟨.zbox [(.str []), (.str []), (.int .i64 0), (.bool false), .nils, (.int .i64 0), (.str []), (.int .i64 0), .nils], none, (some 3), []⟩,
  ⟨.mv (.lit (.int .u8 0)), none, (some 4), []⟩]
def m16r1 : List MOper := [⟨.mv (.tmp 0), none, (some 17), [0]⟩,
  ⟨.build [.nils, (.bool false)] [(0, 1, (.tmp 17))], none, (some 18), [17]⟩,
  ⟨.box 2 (.tmp 18), none, (some 19), [18]⟩,
  ⟨.mv (.tmp 19), none, (some 5), [19]⟩]
def m16r2 : List MOper := [⟨.zbox [(.str []), (.str []), (.int .i64 0), (.bool false), .nils, (.int .i64 0), (.str []), (.int .i64 0), .nils], none, (some 6), []⟩]
def m16r3 : List MOper := [⟨.mv (.tmp 0), none, (some 20), [0]⟩,
  ⟨.len 1 (.tmp 20), none, (some 21), [20]⟩,
  ⟨.bin .geq .other (.tmp 21) (.lit (.int .i64 8)), none, (some 22), [21]⟩,
  ⟨.mv (.tmp 22), none, (some 23), [22]⟩,
  ⟨.mv (.tmp 0), (some (23, true)), (some 24), [0]⟩,
  ⟨.iaddr 1 (.tmp 24) (.lit (.int .i64 0)), (some (23, true)), (some 25), [24]⟩,
  ⟨.load none (.tmp 25), (some (23, true)), (some 26), [25]⟩,
  ⟨.bin .geq .other (.tmp 26) (.lit (.int .u8 128)), (some (23, true)), (some 27), [26]⟩,
  ⟨.pick (.tmp 23) (.tmp 27) (.lit (.bool false)), none, (some 28), [23, 27]⟩,
  ⟨.mv (.tmp 28), none, (some 7), [28]⟩]
def m16r4 : List MOper := [⟨.mv (.lit (.int .i64 0)), none, (some 8), []⟩]
def m16r5 : List MOper := [⟨.mv (.tmp 7), none, (some 29), [7]⟩]
def m16r6 : List MOper := [⟨.mv (.tmp 5), none, (some 30), [5]⟩,
  ⟨.call 40 [(.tmp 30), (.lit (.int .i64 8))], none, (some 31), [30]⟩]
def m16r7 : List MOper := [⟨.mv (.tmp 5), none, (some 32), [5]⟩,
  ⟨.call 41 [(.tmp 32), (.lit (.int .i64 8))], none, (some 33), [32]⟩,
  ⟨.mv (.tmp 33), none, (some 8), [33]⟩]
def m16r8 : List MOper := [⟨.mv (.tmp 5), none, (some 34), [5]⟩,
  ⟨.call 42 [(.tmp 34)], none, (some 35), [34]⟩,
  ⟨.faddr 0 (.tmp 6), none, (some 36), [6]⟩,
  ⟨.store 1 (.tmp 36) (.tmp 35), none, none, [36, 35]⟩]
def m16r9 : List MOper := [⟨.mv (.tmp 5), none, (some 37), [5]⟩,
  ⟨.call 42 [(.tmp 37)], none, (some 38), [37]⟩,
  ⟨.faddr 1 (.tmp 6), none, (some 39), [6]⟩,
  ⟨.store 1 (.tmp 39) (.tmp 38), none, none, [39, 38]⟩]
def m16r10 : List MOper := [⟨.mv (.tmp 5), none, (some 40), [5]⟩,
  ⟨.call 41 [(.tmp 40), (.lit (.int .i64 4))], none, (some 41), [40]⟩,
  ⟨.faddr 2 (.tmp 6), none, (some 42), [6]⟩,
  ⟨.store 1 (.tmp 42) (.tmp 41), none, none, [42, 41]⟩]
def m16r11 : List MOper := [⟨.mv (.tmp 5), none, (some 43), [5]⟩,
  ⟨.call 41 [(.tmp 43), (.lit (.int .i64 1))], none, (some 44), [43]⟩,
  ⟨.mv (.tmp 44), none, (some 9), [44]⟩]
def m16r12 : List MOper := [⟨.mv (.tmp 9), none, (some 45), [9]⟩,
  ⟨.bin .eql .other (.tmp 45) (.lit (.int .i64 1)), none, (some 46), [45]⟩,
  ⟨.faddr 3 (.tmp 6), none, (some 47), [6]⟩,
  ⟨.store 1 (.tmp 47) (.tmp 46), none, none, [47, 46]⟩]
def m16r13 : List MOper := [⟨.mv (.tmp 5), none, (some 48), [5]⟩,
  ⟨.call 41 [(.tmp 48), (.lit (.int .i64 4))], none, (some 49), [48]⟩,
  ⟨.faddr 5 (.tmp 6), none, (some 50), [6]⟩,
  ⟨.store 1 (.tmp 50) (.tmp 49), none, none, [50, 49]⟩]
def m16r14 : List MOper := [⟨.mv (.tmp 5), none, (some 51), [5]⟩,
  ⟨.call 42 [(.tmp 51)], none, (some 52), [51]⟩,
  ⟨.faddr 6 (.tmp 6), none, (some 53), [6]⟩,
  ⟨.store 1 (.tmp 53) (.tmp 52), none, none, [53, 52]⟩]
def m16r15 : List MOper := [⟨.mv (.tmp 5), none, (some 54), [5]⟩,
  ⟨.call 41 [(.tmp 54), (.lit (.int .i64 4))], none, (some 55), [54]⟩,
  ⟨.faddr 7 (.tmp 6), none, (some 56), [6]⟩,
  ⟨.store 1 (.tmp 56) (.tmp 55), none, none, [56, 55]⟩]
def m16r16 : List MOper := [⟨.mv (.tmp 5), none, (some 57), [5]⟩,
  ⟨.call 41 [(.tmp 57), (.lit (.int .i64 1))], none, (some 58), [57]⟩,
  ⟨.mv (.tmp 58), none, (some 10), [58]⟩]
def m16r17 : List MOper := [⟨.mv (.lit (.int .i64 0)), none, (some 11), []⟩]
def m16r18 : List MOper := [⟨.mv (.tmp 11), none, (some 59), [11]⟩,
  ⟨.mv (.tmp 10), none, (some 60), [10]⟩,
  ⟨.bin .lss .other (.tmp 59) (.tmp 60), none, (some 61), [59, 60]⟩,
  ⟨.mv (.tmp 61), none, (some 62), [61]⟩,
  ⟨.mv (.tmp 5), (some (62, true)), (some 63), [5]⟩,
  ⟨.nilchk (.tmp 63), (some (62, true)), (some 64), [63]⟩,
  ⟨.faddr 1 (.tmp 64), (some (62, true)), (some 65), [64]⟩,
  ⟨.load none (.tmp 65), (some (62, true)), (some 66), [65]⟩,
  ⟨.un .not (.tmp 66), (some (62, true)), (some 67), [66]⟩,
  ⟨.pick (.tmp 62) (.tmp 67) (.lit (.bool false)), none, (some 68), [62, 67]⟩]
def m16r19 : List MOper := [⟨.mv (.tmp 5), none, (some 71), [5]⟩,
  ⟨.call 42 [(.tmp 71)], none, (some 72), [71]⟩,
  ⟨.mv (.tmp 72), none, (some 12), [72]⟩]
def m16r20 : List MOper := [⟨.mv (.tmp 5), none, (some 73), [5]⟩,
  ⟨.call 41 [(.tmp 73), (.lit (.int .i64 2))], none, (some 74), [73]⟩,
  ⟨.mv (.tmp 74), none, (some 13), [74]⟩]
def m16r21 : List MOper := [⟨.mv (.tmp 5), none, (some 75), [5]⟩,
  ⟨.call 41 [(.tmp 75), (.lit (.int .i64 4))], none, (some 76), [75]⟩,
  ⟨.mv (.tmp 76), none, (some 14), [76]⟩]
def m16r22 : List MOper := [⟨.faddr 4 (.tmp 6), none, (some 77), [6]⟩,
  ⟨.load none (.tmp 77), none, (some 78), [77]⟩,
  ⟨.mv (.tmp 12), none, (some 79), [12]⟩,
  ⟨.mv (.tmp 13), none, (some 80), [13]⟩,
  ⟨.mv (.tmp 14), none, (some 81), [14]⟩,
  ⟨.build [(.str []), (.int .i64 0), (.int .i64 0)] [(0, 1, (.tmp 79)), (1, 1, (.tmp 80)), (2, 1, (.tmp 81))], none, (some 82), [79, 80, 81]⟩,
  ⟨.mkfrz [(.str []), (.int .i64 0), (.int .i64 0)] 1 [(0, (.tmp 82))], none, (some 83), [82]⟩,
  ⟨.append 3 32 (.tmp 78) (.tmp 83), none, (some 84), [78, 83]⟩,
  ⟨.faddr 4 (.tmp 6), none, (some 85), [6]⟩,
  ⟨.store 1 (.tmp 85) (.tmp 84), none, none, [85, 84]⟩]
def m16r23 : List MOper := [⟨.mv (.tmp 11), none, (some 69), [11]⟩,
  ⟨.bin .add .other (.tmp 69) (.lit (.int .i64 1)), none, (some 70), [69]⟩,
  ⟨.mv (.tmp 70), none, (some 11), [70]⟩]
def m16l24 : MCode := (.seq (.seq (.region m16r18 [3, 5, 6, 7, 8, 9, 10, 11, 68])
  (.cond (.tmp 68)
  .skip
  (.exit 0)))
  (.seq (.block 1 (.seq (.region m16r19 [3, 5, 6, 7, 8, 9, 10, 11, 12])
  (.seq (.region m16r20 [3, 5, 6, 7, 8, 9, 10, 11, 12, 13])
  (.seq (.region m16r21 [3, 5, 6, 7, 8, 9, 10, 11, 12, 13, 14])
  (.region m16r22 [3, 5, 6, 7, 8, 9, 10, 11])))))
  (.region m16r23 [3, 5, 6, 7, 8, 9, 10, 11])))
def m16r25 : List MOper := [⟨.mv (.tmp 5), none, (some 86), [5]⟩,
  ⟨.call 41 [(.tmp 86), (.lit (.int .i64 1))], none, (some 87), [86]⟩,
  ⟨.mv (.tmp 87), none, (some 10), [87]⟩]
def m16r26 : List MOper := [⟨.mv (.lit (.int .i64 0)), none, (some 15), []⟩]
def m16r27 : List MOper := [⟨.mv (.tmp 15), none, (some 88), [15]⟩,
  ⟨.mv (.tmp 10), none, (some 89), [10]⟩,
  ⟨.bin .lss .other (.tmp 88) (.tmp 89), none, (some 90), [88, 89]⟩,
  ⟨.mv (.tmp 90), none, (some 91), [90]⟩,
  ⟨.mv (.tmp 5), (some (91, true)), (some 92), [5]⟩,
  ⟨.nilchk (.tmp 92), (some (91, true)), (some 93), [92]⟩,
  ⟨.faddr 1 (.tmp 93), (some (91, true)), (some 94), [93]⟩,
  ⟨.load none (.tmp 94), (some (91, true)), (some 95), [94]⟩,
  ⟨.un .not (.tmp 95), (some (91, true)), (some 96), [95]⟩,
  ⟨.pick (.tmp 91) (.tmp 96) (.lit (.bool false)), none, (some 97), [91, 96]⟩]
def m16r28 : List MOper := [⟨.mv (.tmp 5), none, (some 100), [5]⟩,
  ⟨.call 42 [(.tmp 100)], none, (some 101), [100]⟩,
  ⟨.mv (.tmp 101), none, (some 16), [101]⟩]
def m16r29 : List MOper := [⟨.faddr 8 (.tmp 6), none, (some 102), [6]⟩,
  ⟨.load none (.tmp 102), none, (some 103), [102]⟩,
  ⟨.mv (.tmp 16), none, (some 104), [16]⟩,
  ⟨.mkfrz [(.str [])] 1 [(0, (.tmp 104))], none, (some 105), [104]⟩,
  ⟨.append 1 16 (.tmp 103) (.tmp 105), none, (some 106), [103, 105]⟩,
  ⟨.faddr 8 (.tmp 6), none, (some 107), [6]⟩,
  ⟨.store 1 (.tmp 107) (.tmp 106), none, none, [107, 106]⟩]
def m16r30 : List MOper := [⟨.mv (.tmp 15), none, (some 98), [15]⟩,
  ⟨.bin .add .other (.tmp 98) (.lit (.int .i64 1)), none, (some 99), [98]⟩,
  ⟨.mv (.tmp 99), none, (some 15), [99]⟩]
def m16l31 : MCode := (.seq (.seq (.region m16r27 [3, 5, 6, 7, 8, 9, 10, 15, 97])
  (.cond (.tmp 97)
  .skip
  (.exit 2)))
  (.seq (.block 3 (.seq (.region m16r28 [3, 5, 6, 7, 8, 9, 10, 15, 16])
  (.region m16r29 [3, 5, 6, 7, 8, 9, 10, 15])))
  (.region m16r30 [3, 5, 6, 7, 8, 9, 10, 15])))
def m16r32 : List MOper := [⟨.mv (.tmp 5), none, (some 108), [5]⟩,
  ⟨.nilchk (.tmp 108), none, (some 109), [108]⟩,
  ⟨.faddr 1 (.tmp 109), none, (some 110), [109]⟩,
  ⟨.load none (.tmp 110), none, (some 111), [110]⟩]
def m16r33 : List MOper := [⟨.build [(.str []), (.str []), (.int .i64 0), (.bool false), .nils, (.int .i64 0), (.str []), (.int .i64 0), .nils] [], none, (some 112), []⟩,
  ⟨.mv (.lit (.int .i64 0)), none, (some 2), []⟩,
  ⟨.store 9 (.tmp 3) (.tmp 112), none, none, [3, 112]⟩,
  ⟨.mv (.lit (.int .u8 6)), none, (some 4), []⟩]
def m16r34 : List MOper := [⟨.mv (.tmp 5), none, (some 113), [5]⟩,
  ⟨.nilchk (.tmp 113), none, (some 114), [113]⟩,
  ⟨.faddr 0 (.tmp 114), none, (some 115), [114]⟩,
  ⟨.load none (.tmp 115), none, (some 116), [115]⟩,
  ⟨.len 1 (.tmp 116), none, (some 117), [116]⟩,
  ⟨.bin .gtr .other (.tmp 117) (.lit (.int .i64 0)), none, (some 118), [117]⟩,
  ⟨.mv (.tmp 118), none, (some 119), [118]⟩,
  ⟨.mv (.tmp 9), (some (119, false)), (some 120), [9]⟩,
  ⟨.bin .gtr .other (.tmp 120) (.lit (.int .i64 1)), (some (119, false)), (some 121), [120]⟩,
  ⟨.pick (.tmp 119) (.lit (.bool true)) (.tmp 121), none, (some 122), [119, 121]⟩,
  ⟨.mv (.tmp 122), none, (some 123), [122]⟩,
  ⟨.mv (.tmp 7), (some (123, false)), (some 124), [7]⟩,
  ⟨.pick (.tmp 123) (.lit (.bool true)) (.tmp 124), none, (some 125), [123, 124]⟩,
  ⟨.mv (.tmp 125), none, (some 126), [125]⟩,
  ⟨.load (some 9) (.tmp 6), (some (126, false)), (some 127), [6]⟩,
  ⟨.call 12 [(.tmp 127)], (some (126, false)), (some 128), [127]⟩,
  ⟨.un .not (.tmp 128), (some (126, false)), (some 129), [128]⟩,
  ⟨.pick (.tmp 126) (.lit (.bool true)) (.tmp 129), none, (some 130), [126, 129]⟩,
  ⟨.mv (.tmp 130), none, (some 131), [130]⟩,
  ⟨.mv (.tmp 8), (some (131, false)), (some 132), [8]⟩,
  ⟨.bin .gtr .other (.tmp 132) (.lit (.int .i64 1099511627776)), (some (131, false)), (some 133), [132]⟩,
  ⟨.pick (.tmp 131) (.lit (.bool true)) (.tmp 133), none, (some 134), [131, 133]⟩]
def m16r35 : List MOper := [⟨.build [(.str []), (.str []), (.int .i64 0), (.bool false), .nils, (.int .i64 0), (.str []), (.int .i64 0), .nils] [], none, (some 135), []⟩,
  ⟨.mv (.lit (.int .i64 0)), none, (some 2), []⟩,
  ⟨.store 9 (.tmp 3) (.tmp 135), none, none, [3, 135]⟩,
  ⟨.mv (.lit (.int .u8 5)), none, (some 4), []⟩]
def m16r36 : List MOper := [⟨.mv (.tmp 8), none, (some 136), [8]⟩,
  ⟨.load (some 9) (.tmp 6), none, (some 137), [6]⟩]
def m16r37 : List MOper := [⟨.mv (.tmp 136), none, (some 2), [136]⟩,
  ⟨.store 9 (.tmp 3) (.tmp 137), none, none, [3, 137]⟩,
  ⟨.mv (.lit (.int .u8 0)), none, (some 4), []⟩]
def m16r38 : List MOper := [⟨.load (some 9) (.tmp 6), none, (some 137), [6]⟩]
def m16r39 : List MOper := [⟨.load (some 9) (.tmp 6), none, (some 137), [6]⟩]
def m16 : MFunc := ⟨138, [.tmp 2, .cell 3 (some 9), .tmp 4],
  (.seq (.region m16r0 [0, 3])
  (.seq (.region m16r1 [0, 3, 5])
  (.seq (.region m16r2 [0, 3, 5, 6])
  (.seq (.region m16r3 [3, 5, 6, 7])
  (.seq (.region m16r4 [3, 5, 6, 7, 8])
  (.seq (.seq (.region m16r5 [3, 5, 6, 7, 8, 29])
  (.cond (.tmp 29)
  (.region m16r6 [3, 5, 6, 7, 8])
  (.region m16r7 [3, 5, 6, 7, 8])))
  (.seq (.region m16r8 [3, 5, 6, 7, 8])
  (.seq (.region m16r9 [3, 5, 6, 7, 8])
  (.seq (.region m16r10 [3, 5, 6, 7, 8])
  (.seq (.region m16r11 [3, 5, 6, 7, 8, 9])
  (.seq (.region m16r12 [3, 5, 6, 7, 8, 9])
  (.seq (.region m16r13 [3, 5, 6, 7, 8, 9])
  (.seq (.region m16r14 [3, 5, 6, 7, 8, 9])
  (.seq (.region m16r15 [3, 5, 6, 7, 8, 9])
  (.seq (.region m16r16 [3, 5, 6, 7, 8, 9, 10])
  (.seq (.seq (.region m16r17 [3, 5, 6, 7, 8, 9, 10, 11])
  (.block 0 (.loop [3, 5, 6, 7, 8, 9, 10, 11] m16l24)))
  (.seq (.region m16r25 [3, 5, 6, 7, 8, 9, 10])
  (.seq (.seq (.region m16r26 [3, 5, 6, 7, 8, 9, 10, 15])
  (.block 2 (.loop [3, 5, 6, 7, 8, 9, 10, 15] m16l31)))
  (.seq (.seq (.region m16r32 [3, 5, 6, 7, 8, 9, 111])
  (.cond (.tmp 111)
  (.seq (.region m16r33 [2, 3, 4])
  .ret)
  .skip))
  (.seq (.seq (.region m16r34 [3, 6, 8, 134])
  (.cond (.tmp 134)
  (.seq (.region m16r35 [2, 3, 4])
  .ret)
  .skip))
  (.seq (.dregion m16r36 m16r37 [m16r38, m16r39, [], []] [2, 3, 4])
  .ret)))))))))))))))))))))⟩
def h16 : List RH := [⟨[0, 3], 0, false, []⟩, ⟨[0, 3, 5], 0, false, []⟩, ⟨[0, 3, 5, 6], 0, false, []⟩, ⟨[3, 5, 6, 7], 0, false, []⟩, ⟨[3, 5, 6, 7, 8], 0, false, []⟩, ⟨[3, 5, 6, 7, 8, 29], 0, false, []⟩, ⟨[3, 5, 6, 7, 8], 0, false, []⟩, ⟨[3, 5, 6, 7, 8], 0, false, []⟩, ⟨[3, 5, 6, 7, 8], 0, false, []⟩, ⟨[3, 5, 6, 7, 8], 0, false, []⟩, ⟨[3, 5, 6, 7, 8], 0, false, []⟩, ⟨[3, 5, 6, 7, 8, 9], 0, false, []⟩, ⟨[3, 5, 6, 7, 8, 9], 0, false, []⟩, ⟨[3, 5, 6, 7, 8, 9], 0, false, []⟩, ⟨[3, 5, 6, 7, 8, 9], 0, false, []⟩, ⟨[3, 5, 6, 7, 8, 9], 0, false, []⟩, ⟨[3, 5, 6, 7, 8, 9, 10], 0, false, []⟩, ⟨[3, 5, 6, 7, 8, 9, 10, 11], 0, false, []⟩, ⟨[3, 5, 6, 7, 8, 9, 10, 11], 0, false, []⟩, ⟨[3, 5, 6, 7, 8, 9, 10, 11, 68], 0, false, []⟩, ⟨[3, 5, 6, 7, 8, 9, 10, 11, 12], 0, false, []⟩, ⟨[3, 5, 6, 7, 8, 9, 10, 11, 12, 13], 0, false, []⟩, ⟨[3, 5, 6, 7, 8, 9, 10, 11, 12, 13, 14], 0, false, []⟩, ⟨[3, 5, 6, 7, 8, 9, 10, 11], 0, false, []⟩, ⟨[3, 5, 6, 7, 8, 9, 10, 11], 0, false, []⟩, ⟨[3, 5, 6, 7, 8, 9, 10], 0, false, []⟩, ⟨[3, 5, 6, 7, 8, 9, 10, 15], 0, false, []⟩, ⟨[3, 5, 6, 7, 8, 9, 10, 15], 0, false, []⟩, ⟨[3, 5, 6, 7, 8, 9, 10, 15, 97], 0, false, []⟩, ⟨[3, 5, 6, 7, 8, 9, 10, 15, 16], 0, false, []⟩, ⟨[3, 5, 6, 7, 8, 9, 10, 15], 0, false, []⟩, ⟨[3, 5, 6, 7, 8, 9, 10, 15], 0, false, []⟩, ⟨[3, 5, 6, 7, 8, 9, 111], 0, false, []⟩, ⟨[2, 3, 4], 0, false, []⟩, ⟨[3, 6, 8, 134], 0, false, []⟩, ⟨[2, 3, 4], 0, false, []⟩, ⟨[2, 3, 4], 2, false, []⟩]
theorem m16_ok : cmpFn Try.prog 16 h16 = some m16 := by kernel_rfl

/- dialtone/dialtoneref22.SameAct -/
def m17r0 : List MOper := [⟨.box 9 (.tmp 0), none, (some 2), [0]⟩,
  ⟨.box 9 (.tmp 1), none, (some 3), [1]⟩,
  ⟨.mv (.lit (.bool false)), none, (some 4), []⟩]
def m17r1 : List MOper := [⟨.faddr 0 (.tmp 2), none, (some 6), [2]⟩,
  ⟨.load none (.tmp 6), none, (some 7), [6]⟩,
  ⟨.faddr 0 (.tmp 3), none, (some 8), [3]⟩,
  ⟨.load none (.tmp 8), none, (some 9), [8]⟩,
  ⟨.bin .neq .other (.tmp 7) (.tmp 9), none, (some 10), [7, 9]⟩,
  ⟨.mv (.tmp 10), none, (some 11), [10]⟩,
  ⟨.faddr 1 (.tmp 2), (some (11, false)), (some 12), [2]⟩,
  ⟨.load none (.tmp 12), (some (11, false)), (some 13), [12]⟩,
  ⟨.faddr 1 (.tmp 3), (some (11, false)), (some 14), [3]⟩,
  ⟨.load none (.tmp 14), (some (11, false)), (some 15), [14]⟩,
  ⟨.bin .neq .other (.tmp 13) (.tmp 15), (some (11, false)), (some 16), [13, 15]⟩,
  ⟨.pick (.tmp 11) (.lit (.bool true)) (.tmp 16), none, (some 17), [11, 16]⟩,
  ⟨.mv (.tmp 17), none, (some 18), [17]⟩,
  ⟨.faddr 2 (.tmp 2), (some (18, false)), (some 19), [2]⟩,
  ⟨.load none (.tmp 19), (some (18, false)), (some 20), [19]⟩,
  ⟨.faddr 2 (.tmp 3), (some (18, false)), (some 21), [3]⟩,
  ⟨.load none (.tmp 21), (some (18, false)), (some 22), [21]⟩,
  ⟨.bin .neq .other (.tmp 20) (.tmp 22), (some (18, false)), (some 23), [20, 22]⟩,
  ⟨.pick (.tmp 18) (.lit (.bool true)) (.tmp 23), none, (some 24), [18, 23]⟩,
  ⟨.mv (.tmp 24), none, (some 25), [24]⟩,
  ⟨.faddr 3 (.tmp 2), (some (25, false)), (some 26), [2]⟩,
  ⟨.load none (.tmp 26), (some (25, false)), (some 27), [26]⟩,
  ⟨.faddr 3 (.tmp 3), (some (25, false)), (some 28), [3]⟩,
  ⟨.load none (.tmp 28), (some (25, false)), (some 29), [28]⟩,
  ⟨.bin .neq .bool (.tmp 27) (.tmp 29), (some (25, false)), (some 30), [27, 29]⟩,
  ⟨.pick (.tmp 25) (.lit (.bool true)) (.tmp 30), none, (some 31), [25, 30]⟩,
  ⟨.mv (.tmp 31), none, (some 32), [31]⟩,
  ⟨.faddr 5 (.tmp 2), (some (32, false)), (some 33), [2]⟩,
  ⟨.load none (.tmp 33), (some (32, false)), (some 34), [33]⟩,
  ⟨.faddr 5 (.tmp 3), (some (32, false)), (some 35), [3]⟩,
  ⟨.load none (.tmp 35), (some (32, false)), (some 36), [35]⟩,
  ⟨.bin .neq .other (.tmp 34) (.tmp 36), (some (32, false)), (some 37), [34, 36]⟩,
  ⟨.pick (.tmp 32) (.lit (.bool true)) (.tmp 37), none, (some 38), [32, 37]⟩,
  ⟨.mv (.tmp 38), none, (some 39), [38]⟩,
  ⟨.faddr 6 (.tmp 2), (some (39, false)), (some 40), [2]⟩,
  ⟨.load none (.tmp 40), (some (39, false)), (some 41), [40]⟩,
  ⟨.faddr 6 (.tmp 3), (some (39, false)), (some 42), [3]⟩,
  ⟨.load none (.tmp 42), (some (39, false)), (some 43), [42]⟩,
  ⟨.bin .neq .other (.tmp 41) (.tmp 43), (some (39, false)), (some 44), [41, 43]⟩,
  ⟨.pick (.tmp 39) (.lit (.bool true)) (.tmp 44), none, (some 45), [39, 44]⟩,
  ⟨.mv (.tmp 45), none, (some 46), [45]⟩,
  ⟨.faddr 7 (.tmp 2), (some (46, false)), (some 47), [2]⟩,
  ⟨.load none (.tmp 47), (some (46, false)), (some 48), [47]⟩,
  ⟨.faddr 7 (.tmp 3), (some (46, false)), (some 49), [3]⟩,
  ⟨.load none (.tmp 49), (some (46, false)), (some 50), [49]⟩,
  ⟨.bin .neq .other (.tmp 48) (.tmp 50), (some (46, false)), (some 51), [48, 50]⟩,
  ⟨.pick (.tmp 46) (.lit (.bool true)) (.tmp 51), none, (some 52), [46, 51]⟩,
  ⟨.mv (.tmp 52), none, (some 53), [52]⟩,
  ⟨.faddr 8 (.tmp 2), (some (53, false)), (some 54), [2]⟩,
  ⟨.load none (.tmp 54), (some (53, false)), (some 55), [54]⟩,
  ⟨.faddr 8 (.tmp 3), (some (53, false)), (some 56), [3]⟩,
  ⟨.load none (.tmp 56), (some (53, false)), (some 57), [56]⟩,
  ⟨.call 43 [(.tmp 55), (.tmp 57)], (some (53, false)), (some 58), [55, 57]⟩,
  ⟨.un .not (.tmp 58), (some (53, false)), (some 59), [58]⟩,
  ⟨.pick (.tmp 53) (.lit (.bool true)) (.tmp 59), none, (some 60), [53, 59]⟩,
  ⟨.mv (.tmp 60), none, (some 61), [60]⟩,
  ⟨.faddr 4 (.tmp 2), (some (61, false)), (some 62), [2]⟩,
  ⟨.load none (.tmp 62), (some (61, false)), (some 63), [62]⟩,
  ⟨.len 1 (.tmp 63), (some (61, false)), (some 64), [63]⟩,
  ⟨.faddr 4 (.tmp 3), (some (61, false)), (some 65), [3]⟩,
  ⟨.load none (.tmp 65), (some (61, false)), (some 66), [65]⟩,
  ⟨.len 1 (.tmp 66), (some (61, false)), (some 67), [66]⟩,
  ⟨.bin .neq .other (.tmp 64) (.tmp 67), (some (61, false)), (some 68), [64, 67]⟩,
  ⟨.pick (.tmp 61) (.lit (.bool true)) (.tmp 68), none, (some 69), [61, 68]⟩]
def m17r2 : List MOper := [⟨.mv (.lit (.bool false)), none, (some 4), []⟩]
def m17r3 : List MOper := [⟨.mv (.lit (.int .i64 0)), none, (some 5), []⟩]
def m17r4 : List MOper := [⟨.mv (.tmp 5), none, (some 70), [5]⟩,
  ⟨.faddr 4 (.tmp 2), none, (some 71), [2]⟩,
  ⟨.load none (.tmp 71), none, (some 72), [71]⟩,
  ⟨.len 1 (.tmp 72), none, (some 73), [72]⟩,
  ⟨.bin .lss .other (.tmp 70) (.tmp 73), none, (some 74), [70, 73]⟩]
def m17r5 : List MOper := [⟨.faddr 4 (.tmp 2), none, (some 77), [2]⟩,
  ⟨.load none (.tmp 77), none, (some 78), [77]⟩,
  ⟨.mv (.tmp 5), none, (some 79), [5]⟩,
  ⟨.iaddr 3 (.tmp 78) (.tmp 79), none, (some 80), [78, 79]⟩,
  ⟨.load (some 3) (.tmp 80), none, (some 81), [80]⟩,
  ⟨.faddr 4 (.tmp 3), none, (some 82), [3]⟩,
  ⟨.load none (.tmp 82), none, (some 83), [82]⟩,
  ⟨.mv (.tmp 5), none, (some 84), [5]⟩,
  ⟨.iaddr 3 (.tmp 83) (.tmp 84), none, (some 85), [83, 84]⟩,
  ⟨.load (some 3) (.tmp 85), none, (some 86), [85]⟩]
def m17r6 : List MOper := [⟨.bin .neq (.flat [2, 0, 0]) (.tmp 81) (.tmp 86), none, (some 87), [81, 86]⟩]
def m17r7 : List MOper := [⟨.mv (.lit (.bool false)), none, (some 4), []⟩]
def m17r8 : List MOper := [⟨.mv (.tmp 5), none, (some 75), [5]⟩,
  ⟨.bin .add .other (.tmp 75) (.lit (.int .i64 1)), none, (some 76), [75]⟩,
  ⟨.mv (.tmp 76), none, (some 5), [76]⟩]
def m17l9 : MCode := (.seq (.seq (.region m17r4 [2, 3, 5, 74])
  (.cond (.tmp 74)
  .skip
  (.exit 0)))
  (.seq (.block 1 (.seq (.dregion m17r5 m17r6 [] [2, 3, 5, 87])
  (.cond (.tmp 87)
  (.seq (.region m17r7 [4])
  .ret)
  .skip)))
  (.region m17r8 [2, 3, 5])))
def m17r10 : List MOper := [⟨.mv (.lit (.bool true)), none, (some 4), []⟩]
def m17 : MFunc := ⟨88, [.tmp 4],
  (.seq (.region m17r0 [2, 3])
  (.seq (.seq (.region m17r1 [2, 3, 69])
  (.cond (.tmp 69)
  (.seq (.region m17r2 [4])
  .ret)
  .skip))
  (.seq (.seq (.region m17r3 [2, 3, 5])
  (.block 0 (.loop [2, 3, 5] m17l9)))
  (.seq (.region m17r10 [4])
  .ret))))⟩
def h17 : List RH := [⟨[2, 3], 0, false, []⟩, ⟨[2, 3, 69], 0, false, []⟩, ⟨[4], 0, false, []⟩, ⟨[2, 3, 5], 0, false, []⟩, ⟨[2, 3, 5], 0, false, []⟩, ⟨[2, 3, 5, 74], 0, false, []⟩, ⟨[2, 3, 5, 87], 10, false, []⟩, ⟨[4], 0, false, []⟩, ⟨[2, 3, 5], 0, false, []⟩, ⟨[4], 0, false, []⟩]
theorem m17_ok : cmpFn Try.prog 17 h17 = some m17 := by kernel_rfl

/- dialtone/dialtoneref22.within -/
def m28r0 : List MOper := [⟨.mv (.lit (.bool false)), none, (some 6), []⟩]
def m28r1 : List MOper := [⟨.mv (.tmp 0), none, (some 7), [0]⟩,
  ⟨.mv (.tmp 1), none, (some 8), [1]⟩,
  ⟨.bin .geq .other (.tmp 7) (.tmp 8), none, (some 9), [7, 8]⟩,
  ⟨.mv (.tmp 9), none, (some 10), [9]⟩,
  ⟨.mv (.tmp 0), (some (10, true)), (some 11), [0]⟩,
  ⟨.mv (.tmp 2), (some (10, true)), (some 12), [2]⟩,
  ⟨.bin .leq .other (.tmp 11) (.tmp 12), (some (10, true)), (some 13), [11, 12]⟩,
  ⟨.pick (.tmp 10) (.tmp 13) (.lit (.bool false)), none, (some 14), [10, 13]⟩,
  ⟨.mv (.tmp 14), none, (some 6), [14]⟩]
def m28 : MFunc := ⟨15, [.tmp 6],
  (.seq (.region m28r0 [0, 1, 2])
  (.seq (.region m28r1 [6])
  .ret))⟩
def h28 : List RH := [⟨[0, 1, 2], 0, false, []⟩, ⟨[6], 0, false, []⟩]
theorem m28_ok : cmpFn Try.prog 28 h28 = some m28 := by kernel_rfl

/- dialtone/registrar.within -/
def m29r0 : List MOper := [⟨.mv (.lit (.bool false)), none, (some 6), []⟩]
def m29r1 : List MOper := [⟨.mv (.tmp 0), none, (some 7), [0]⟩,
  ⟨.mv (.tmp 1), none, (some 8), [1]⟩,
  ⟨.bin .geq .other (.tmp 7) (.tmp 8), none, (some 9), [7, 8]⟩,
  ⟨.mv (.tmp 9), none, (some 10), [9]⟩,
  ⟨.mv (.tmp 0), (some (10, true)), (some 11), [0]⟩,
  ⟨.mv (.tmp 2), (some (10, true)), (some 12), [2]⟩,
  ⟨.bin .leq .other (.tmp 11) (.tmp 12), (some (10, true)), (some 13), [11, 12]⟩,
  ⟨.pick (.tmp 10) (.tmp 13) (.lit (.bool false)), none, (some 14), [10, 13]⟩,
  ⟨.mv (.tmp 14), none, (some 6), [14]⟩]
def m29 : MFunc := ⟨15, [.tmp 6],
  (.seq (.region m29r0 [0, 1, 2])
  (.seq (.region m29r1 [6])
  .ret))⟩
def h29 : List RH := [⟨[0, 1, 2], 0, false, []⟩, ⟨[6], 0, false, []⟩]
theorem m29_ok : cmpFn Try.prog 29 h29 = some m29 := by kernel_rfl

/- slices.ContainsFunc[[]string,string] -/
def m30r0 : List MOper := [⟨.mv (.lit (.bool false)), none, (some 4), []⟩]
def m30r1 : List MOper := [⟨.mv (.tmp 0), none, (some 5), [0]⟩,
  ⟨.mv (.tmp 1), none, (some 6), [1]⟩,
  ⟨.call 54 [(.tmp 5), (.tmp 6)], none, (some 7), [5, 6]⟩,
  ⟨.bin .geq .other (.tmp 7) (.lit (.int .i64 0)), none, (some 8), [7]⟩,
  ⟨.mv (.tmp 8), none, (some 4), [8]⟩]
def m30 : MFunc := ⟨9, [.tmp 4],
  (.seq (.region m30r0 [0, 1])
  (.seq (.region m30r1 [4])
  .ret))⟩
def h30 : List RH := [⟨[0, 1], 0, false, []⟩, ⟨[4], 0, false, []⟩]
theorem m30_ok : cmpFn Try.prog 30 h30 = some m30 := by kernel_rfl

/- dialtone/registrar.Formed$1 -/
def m31r0 : List MOper := [⟨.mv (.lit (.bool false)), none, (some 2), []⟩]
def m31r1 : List MOper := [⟨.mv (.tmp 0), none, (some 3), [0]⟩,
  ⟨.len 0 (.tmp 3), none, (some 4), [3]⟩,
  ⟨.call 29 [(.tmp 4), (.lit (.int .i64 1)), (.lit (.int .i64 1000))], none, (some 5), [4]⟩,
  ⟨.un .not (.tmp 5), none, (some 6), [5]⟩,
  ⟨.mv (.tmp 6), none, (some 2), [6]⟩]
def m31 : MFunc := ⟨7, [.tmp 2],
  (.seq (.region m31r0 [0])
  (.seq (.region m31r1 [2])
  .ret))⟩
def h31 : List RH := [⟨[0], 0, false, []⟩, ⟨[2], 0, false, []⟩]
theorem m31_ok : cmpFn Try.prog 31 h31 = some m31 := by kernel_rfl

/- dialtone/dialtoneref22.contacts -/
def m32r0 : List MOper := [⟨.box 9 (.tmp 0), none, (some 1), [0]⟩,
  ⟨.mv (.lit (.bool false)), none, (some 2), []⟩]
def m32r1 : List MOper := [⟨.faddr 4 (.tmp 1), none, (some 6), [1]⟩,
  ⟨.load none (.tmp 6), none, (some 7), [6]⟩,
  ⟨.len 1 (.tmp 7), none, (some 8), [7]⟩,
  ⟨.bin .gtr .other (.tmp 8) (.lit (.int .i64 20)), none, (some 9), [8]⟩,
  ⟨.mv (.tmp 9), none, (some 10), [9]⟩,
  ⟨.faddr 3 (.tmp 1), (some (10, false)), (some 11), [1]⟩,
  ⟨.load none (.tmp 11), (some (10, false)), (some 12), [11]⟩,
  ⟨.mv (.tmp 12), (some (10, false)), (some 13), [12]⟩,
  ⟨.faddr 4 (.tmp 1), (some (13, true)), (some 14), [1]⟩,
  ⟨.load none (.tmp 14), (some (13, true)), (some 15), [14]⟩,
  ⟨.len 1 (.tmp 15), (some (13, true)), (some 16), [15]⟩,
  ⟨.bin .neq .other (.tmp 16) (.lit (.int .i64 0)), (some (13, true)), (some 17), [16]⟩,
  ⟨.mv (.tmp 17), (some (13, true)), (some 18), [17]⟩,
  ⟨.faddr 5 (.tmp 1), (some (18, false)), (some 19), [1]⟩,
  ⟨.load none (.tmp 19), (some (18, false)), (some 20), [19]⟩,
  ⟨.bin .neq .other (.tmp 20) (.lit (.int .i64 0)), (some (18, false)), (some 21), [20]⟩,
  ⟨.pick (.tmp 18) (.lit (.bool true)) (.tmp 21), (some (13, true)), (some 22), [18, 21]⟩,
  ⟨.pick (.tmp 13) (.tmp 22) (.lit (.bool false)), (some (10, false)), (some 23), [13, 22]⟩,
  ⟨.pick (.tmp 10) (.lit (.bool true)) (.tmp 23), none, (some 24), [10, 23]⟩]
def m32r2 : List MOper := [⟨.mv (.lit (.bool false)), none, (some 2), []⟩]
def m32r3 : List MOper := [⟨.mv (.lit (.int .i64 0)), none, (some 3), []⟩]
def m32r4 : List MOper := [⟨.mv (.tmp 3), none, (some 25), [3]⟩,
  ⟨.faddr 4 (.tmp 1), none, (some 26), [1]⟩,
  ⟨.load none (.tmp 26), none, (some 27), [26]⟩,
  ⟨.len 1 (.tmp 27), none, (some 28), [27]⟩,
  ⟨.bin .lss .other (.tmp 25) (.tmp 28), none, (some 29), [25, 28]⟩]
def m32r5 : List MOper := [⟨.faddr 4 (.tmp 1), none, (some 32), [1]⟩,
  ⟨.load none (.tmp 32), none, (some 33), [32]⟩,
  ⟨.mv (.tmp 3), none, (some 34), [3]⟩,
  ⟨.iaddr 3 (.tmp 33) (.tmp 34), none, (some 35), [33, 34]⟩,
  ⟨.load (some 3) (.tmp 35), none, (some 36), [35]⟩,
  ⟨.zbox [(.str []), (.int .i64 0), (.int .i64 0)], none, (some 4), []⟩,
  ⟨.store 3 (.tmp 4) (.tmp 36), none, none, [4, 36]⟩]
def m32r6 : List MOper := [⟨.faddr 0 (.tmp 4), none, (some 37), [4]⟩,
  ⟨.load none (.tmp 37), none, (some 38), [37]⟩,
  ⟨.len 0 (.tmp 38), none, (some 39), [38]⟩,
  ⟨.call 28 [(.tmp 39), (.lit (.int .i64 1)), (.lit (.int .i64 1000))], none, (some 40), [39]⟩,
  ⟨.un .not (.tmp 40), none, (some 41), [40]⟩,
  ⟨.mv (.tmp 41), none, (some 42), [41]⟩,
  ⟨.faddr 1 (.tmp 4), (some (42, false)), (some 43), [4]⟩,
  ⟨.load none (.tmp 43), (some (42, false)), (some 44), [43]⟩,
  ⟨.call 28 [(.tmp 44), (.lit (.int .i64 0)), (.lit (.int .i64 1000))], (some (42, false)), (some 45), [44]⟩,
  ⟨.un .not (.tmp 45), (some (42, false)), (some 46), [45]⟩,
  ⟨.pick (.tmp 42) (.lit (.bool true)) (.tmp 46), none, (some 47), [42, 46]⟩,
  ⟨.mv (.tmp 47), none, (some 48), [47]⟩,
  ⟨.faddr 2 (.tmp 4), (some (48, false)), (some 49), [4]⟩,
  ⟨.load none (.tmp 49), (some (48, false)), (some 50), [49]⟩,
  ⟨.call 28 [(.tmp 50), (.lit (.int .i64 (-1))), (.lit (.int .i64 2147483647))], (some (48, false)), (some 51), [50]⟩,
  ⟨.un .not (.tmp 51), (some (48, false)), (some 52), [51]⟩,
  ⟨.pick (.tmp 48) (.lit (.bool true)) (.tmp 52), none, (some 53), [48, 52]⟩]
def m32r7 : List MOper := [⟨.mv (.lit (.bool false)), none, (some 2), []⟩]
def m32r8 : List MOper := [⟨.mv (.lit (.int .i64 0)), none, (some 5), []⟩]
def m32r9 : List MOper := [⟨.mv (.tmp 5), none, (some 54), [5]⟩,
  ⟨.mv (.tmp 3), none, (some 55), [3]⟩,
  ⟨.bin .lss .other (.tmp 54) (.tmp 55), none, (some 56), [54, 55]⟩]
def m32r10 : List MOper := [⟨.faddr 4 (.tmp 1), none, (some 59), [1]⟩,
  ⟨.load none (.tmp 59), none, (some 60), [59]⟩,
  ⟨.mv (.tmp 5), none, (some 61), [5]⟩,
  ⟨.iaddr 3 (.tmp 60) (.tmp 61), none, (some 62), [60, 61]⟩,
  ⟨.faddr 0 (.tmp 62), none, (some 63), [62]⟩,
  ⟨.load none (.tmp 63), none, (some 64), [63]⟩,
  ⟨.faddr 0 (.tmp 4), none, (some 65), [4]⟩,
  ⟨.load none (.tmp 65), none, (some 66), [65]⟩]
def m32r11 : List MOper := [⟨.bin .eql .other (.tmp 64) (.tmp 66), none, (some 67), [64, 66]⟩]
def m32r12 : List MOper := [⟨.mv (.lit (.bool false)), none, (some 2), []⟩]
def m32r13 : List MOper := [⟨.mv (.tmp 5), none, (some 57), [5]⟩,
  ⟨.bin .add .other (.tmp 57) (.lit (.int .i64 1)), none, (some 58), [57]⟩,
  ⟨.mv (.tmp 58), none, (some 5), [58]⟩]
def m32l14 : MCode := (.seq (.seq (.region m32r9 [1, 3, 4, 5, 56])
  (.cond (.tmp 56)
  .skip
  (.exit 2)))
  (.seq (.block 3 (.seq (.dregion m32r10 m32r11 [] [1, 3, 4, 5, 67])
  (.cond (.tmp 67)
  (.seq (.region m32r12 [2])
  .ret)
  .skip)))
  (.region m32r13 [1, 3, 4, 5])))
def m32r15 : List MOper := [⟨.mv (.tmp 3), none, (some 30), [3]⟩,
  ⟨.bin .add .other (.tmp 30) (.lit (.int .i64 1)), none, (some 31), [30]⟩,
  ⟨.mv (.tmp 31), none, (some 3), [31]⟩]
def m32l16 : MCode := (.seq (.seq (.region m32r4 [1, 3, 29])
  (.cond (.tmp 29)
  .skip
  (.exit 0)))
  (.seq (.block 1 (.seq (.region m32r5 [1, 3, 4])
  (.seq (.seq (.region m32r6 [1, 3, 4, 53])
  (.cond (.tmp 53)
  (.seq (.region m32r7 [2])
  .ret)
  .skip))
  (.seq (.region m32r8 [1, 3, 4, 5])
  (.block 2 (.loop [1, 3, 4, 5] m32l14))))))
  (.region m32r15 [1, 3])))
def m32r17 : List MOper := [⟨.mv (.lit (.bool true)), none, (some 2), []⟩]
def m32 : MFunc := ⟨68, [.tmp 2],
  (.seq (.region m32r0 [1])
  (.seq (.seq (.region m32r1 [1, 24])
  (.cond (.tmp 24)
  (.seq (.region m32r2 [2])
  .ret)
  .skip))
  (.seq (.seq (.region m32r3 [1, 3])
  (.block 0 (.loop [1, 3] m32l16)))
  (.seq (.region m32r17 [2])
  .ret))))⟩
def h32 : List RH := [⟨[1], 0, false, []⟩, ⟨[1, 24], 0, false, []⟩, ⟨[2], 0, false, []⟩, ⟨[1, 3], 0, false, []⟩, ⟨[1, 3], 0, false, []⟩, ⟨[1, 3, 29], 0, false, []⟩, ⟨[1, 3, 4], 0, false, []⟩, ⟨[1, 3, 4, 53], 0, false, []⟩, ⟨[2], 0, false, []⟩, ⟨[1, 3, 4, 5], 0, false, []⟩, ⟨[1, 3, 4, 5], 0, false, []⟩, ⟨[1, 3, 4, 5, 56], 0, false, []⟩, ⟨[1, 3, 4, 5, 67], 8, false, []⟩, ⟨[2], 0, false, []⟩, ⟨[1, 3, 4, 5], 0, false, []⟩, ⟨[1, 3], 0, false, []⟩, ⟨[2], 0, false, []⟩]
theorem m32_ok : cmpFn Try.prog 32 h32 = some m32 := by kernel_rfl

/- dialtone/registrar.text -/
def m33r0 : List MOper := [⟨.mv (.lit .nils), none, (some 4), []⟩]
def m33r1 : List MOper := [⟨.mv (.tmp 0), none, (some 5), [0]⟩,
  ⟨.mv (.tmp 1), none, (some 6), [1]⟩,
  ⟨.len 0 (.tmp 6), none, (some 7), [6]⟩,
  ⟨.call 34 [(.tmp 5), (.tmp 7), (.lit (.int .i64 2))], none, (some 8), [5, 7]⟩,
  ⟨.mv (.tmp 1), none, (some 9), [1]⟩,
  ⟨.append 1 1 (.tmp 8) (.tmp 9), none, (some 10), [8, 9]⟩,
  ⟨.mv (.tmp 10), none, (some 4), [10]⟩]
def m33 : MFunc := ⟨11, [.tmp 4],
  (.seq (.region m33r0 [0, 1])
  (.seq (.region m33r1 [4])
  .ret))⟩
def h33 : List RH := [⟨[0, 1], 0, false, []⟩, ⟨[4], 0, false, []⟩]
theorem m33_ok : cmpFn Try.prog 33 h33 = some m33 := by kernel_rfl

/- dialtone/registrar.number -/
def m34r0 : List MOper := [⟨.mv (.lit .nils), none, (some 6), []⟩]
def m34r1 : List MOper := [⟨.mv (.tmp 2), none, (some 8), [2]⟩,
  ⟨.bin .sub .other (.tmp 8) (.lit (.int .i64 1)), none, (some 9), [8]⟩,
  ⟨.mv (.tmp 9), none, (some 7), [9]⟩]
def m34r2 : List MOper := [⟨.mv (.tmp 7), none, (some 10), [7]⟩,
  ⟨.bin .geq .other (.tmp 10) (.lit (.int .i64 0)), none, (some 11), [10]⟩]
def m34r3 : List MOper := [⟨.mv (.tmp 0), none, (some 14), [0]⟩,
  ⟨.mv (.tmp 1), none, (some 15), [1]⟩,
  ⟨.mv (.tmp 7), none, (some 16), [7]⟩,
  ⟨.bin .mul .other (.lit (.int .i64 8)) (.tmp 16), none, (some 17), [16]⟩,
  ⟨.bin .shr .other (.tmp 15) (.tmp 17), none, (some 18), [15, 17]⟩,
  ⟨.conv .u8 (.tmp 18), none, (some 19), [18]⟩,
  ⟨.mkfrz [(.int .u8 0)] 1 [(0, (.tmp 19))], none, (some 20), [19]⟩,
  ⟨.append 1 1 (.tmp 14) (.tmp 20), none, (some 21), [14, 20]⟩,
  ⟨.mv (.tmp 21), none, (some 0), [21]⟩]
def m34r4 : List MOper := [⟨.mv (.tmp 7), none, (some 12), [7]⟩,
  ⟨.bin .sub .other (.tmp 12) (.lit (.int .i64 1)), none, (some 13), [12]⟩,
  ⟨.mv (.tmp 13), none, (some 7), [13]⟩]
def m34l5 : MCode := (.seq (.seq (.region m34r2 [0, 1, 7, 11])
  (.cond (.tmp 11)
  .skip
  (.exit 0)))
  (.seq (.block 1 (.region m34r3 [0, 1, 7]))
  (.region m34r4 [0, 1, 7])))
def m34r6 : List MOper := [⟨.mv (.tmp 0), none, (some 22), [0]⟩,
  ⟨.mv (.tmp 22), none, (some 6), [22]⟩]
def m34 : MFunc := ⟨23, [.tmp 6],
  (.seq (.region m34r0 [0, 1, 2])
  (.seq (.seq (.region m34r1 [0, 1, 7])
  (.block 0 (.loop [0, 1, 7] m34l5)))
  (.seq (.region m34r6 [6])
  .ret)))⟩
def h34 : List RH := [⟨[0, 1, 2], 0, false, []⟩, ⟨[0, 1, 7], 0, false, []⟩, ⟨[0, 1, 7], 0, false, []⟩, ⟨[0, 1, 7, 11], 0, false, []⟩, ⟨[0, 1, 7], 0, false, []⟩, ⟨[0, 1, 7], 0, false, []⟩, ⟨[6], 0, false, []⟩]
theorem m34_ok : cmpFn Try.prog 34 h34 = some m34 := by kernel_rfl

/- dialtone/dialtoneref22.number -/
def m35r0 : List MOper := [⟨.mv (.lit .nils), none, (some 4), []⟩]
def m35r1 : List MOper := [⟨.mv (.tmp 0), none, (some 7), [0]⟩,
  ⟨.bin .lss .other (.tmp 7) (.lit (.int .i64 0)), none, (some 8), [7]⟩]
def m35r2 : List MOper := [⟨.mv (.tmp 0), none, (some 9), [0]⟩,
  ⟨.bin .add .other (.tmp 9) (.lit (.int .i64 4294967296)), none, (some 10), [9]⟩,
  ⟨.mv (.tmp 10), none, (some 0), [10]⟩]
def m35r3 : List MOper := [⟨.mv (.lit .nils), none, (some 5), []⟩]
def m35r4 : List MOper := [⟨.mv (.lit (.int .i64 0)), none, (some 6), []⟩]
def m35r5 : List MOper := [⟨.mv (.tmp 6), none, (some 11), [6]⟩,
  ⟨.mv (.tmp 1), none, (some 12), [1]⟩,
  ⟨.bin .lss .other (.tmp 11) (.tmp 12), none, (some 13), [11, 12]⟩]
def m35r6 : List MOper := [⟨.mv (.tmp 0), none, (some 16), [0]⟩,
  ⟨.bin .rem .other (.tmp 16) (.lit (.int .i64 256)), none, (some 17), [16]⟩,
  ⟨.conv .u8 (.tmp 17), none, (some 18), [17]⟩,
  ⟨.mkslice [(.int .u8 0)] 1 [(0, (.tmp 18))], none, (some 19), [18]⟩,
  ⟨.mv (.tmp 5), none, (some 20), [5]⟩,
  ⟨.append 1 1 (.tmp 19) (.tmp 20), none, (some 21), [19, 20]⟩,
  ⟨.mv (.tmp 21), none, (some 5), [21]⟩]
def m35r7 : List MOper := [⟨.mv (.tmp 0), none, (some 22), [0]⟩,
  ⟨.bin .quo .other (.tmp 22) (.lit (.int .i64 256)), none, (some 23), [22]⟩,
  ⟨.mv (.tmp 23), none, (some 0), [23]⟩]
def m35r8 : List MOper := [⟨.mv (.tmp 6), none, (some 14), [6]⟩,
  ⟨.bin .add .other (.tmp 14) (.lit (.int .i64 1)), none, (some 15), [14]⟩,
  ⟨.mv (.tmp 15), none, (some 6), [15]⟩]
def m35l9 : MCode := (.seq (.seq (.region m35r5 [0, 1, 5, 6, 13])
  (.cond (.tmp 13)
  .skip
  (.exit 0)))
  (.seq (.block 1 (.seq (.region m35r6 [0, 1, 5, 6])
  (.region m35r7 [0, 1, 5, 6])))
  (.region m35r8 [0, 1, 5, 6])))
def m35r10 : List MOper := [⟨.mv (.tmp 5), none, (some 24), [5]⟩,
  ⟨.mv (.tmp 24), none, (some 4), [24]⟩]
def m35 : MFunc := ⟨25, [.tmp 4],
  (.seq (.region m35r0 [0, 1])
  (.seq (.seq (.region m35r1 [0, 1, 8])
  (.cond (.tmp 8)
  (.region m35r2 [0, 1])
  .skip))
  (.seq (.region m35r3 [0, 1, 5])
  (.seq (.seq (.region m35r4 [0, 1, 5, 6])
  (.block 0 (.loop [0, 1, 5, 6] m35l9)))
  (.seq (.region m35r10 [4])
  .ret)))))⟩
def h35 : List RH := [⟨[0, 1], 0, false, []⟩, ⟨[0, 1, 8], 0, false, []⟩, ⟨[0, 1], 0, false, []⟩, ⟨[0, 1, 5], 0, false, []⟩, ⟨[0, 1, 5, 6], 0, false, []⟩, ⟨[0, 1, 5, 6], 0, false, []⟩, ⟨[0, 1, 5, 6, 13], 0, false, []⟩, ⟨[0, 1, 5, 6], 0, false, []⟩, ⟨[0, 1, 5, 6], 0, false, []⟩, ⟨[0, 1, 5, 6], 0, false, []⟩, ⟨[4], 0, false, []⟩]
theorem m35_ok : cmpFn Try.prog 35 h35 = some m35 := by kernel_rfl

/- dialtone/dialtoneref22.text -/
def m36r0 : List MOper := [⟨.mv (.lit .nils), none, (some 2), []⟩]
def m36r1 : List MOper := [⟨.mv (.tmp 0), none, (some 3), [0]⟩,
  ⟨.len 0 (.tmp 3), none, (some 4), [3]⟩,
  ⟨.call 35 [(.tmp 4), (.lit (.int .i64 2))], none, (some 5), [4]⟩,
  ⟨.mv (.tmp 0), none, (some 6), [0]⟩,
  ⟨.append 1 1 (.tmp 5) (.tmp 6), none, (some 7), [5, 6]⟩,
  ⟨.mv (.tmp 7), none, (some 2), [7]⟩]
def m36 : MFunc := ⟨8, [.tmp 2],
  (.seq (.region m36r0 [0])
  (.seq (.region m36r1 [2])
  .ret))⟩
def h36 : List RH := [⟨[0], 0, false, []⟩, ⟨[2], 0, false, []⟩]
theorem m36_ok : cmpFn Try.prog 36 h36 = some m36 := by kernel_rfl

/- dialtone/registrar.DecodeAct$1 -/
def m37r0 : List MOper := [⟨.mv (.lit (.int .i64 0)), none, (some 4), []⟩]
def m37r1 : List MOper := [⟨.load none (.tmp 1), none, (some 8), [1]⟩,
  ⟨.mv (.tmp 8), none, (some 9), [8]⟩,
  ⟨.load none (.tmp 2), (some (9, false)), (some 10), [2]⟩,
  ⟨.len 1 (.tmp 10), (some (9, false)), (some 11), [10]⟩,
  ⟨.mv (.tmp 0), (some (9, false)), (some 12), [0]⟩,
  ⟨.bin .lss .other (.tmp 11) (.tmp 12), (some (9, false)), (some 13), [11, 12]⟩,
  ⟨.pick (.tmp 9) (.lit (.bool true)) (.tmp 13), none, (some 14), [9, 13]⟩]
def m37r2 : List MOper := [⟨.store 1 (.tmp 1) (.lit (.bool true)), none, none, [1]⟩]
def m37r3 : List MOper := [⟨.mv (.lit (.int .i64 0)), none, (some 4), []⟩]
def m37r4 : List MOper := [⟨.mv (.lit (.int .i64 0)), none, (some 5), []⟩]
def m37r5 : List MOper := [⟨.load none (.tmp 2), none, (some 15), [2]⟩,
  ⟨.mv (.tmp 0), none, (some 16), [0]⟩,
  ⟨.slc 1 (.tmp 15) none (some (.tmp 16)) none, none, (some 17), [15, 16]⟩,
  ⟨.len 1 (.tmp 17), none, (some 18), [17]⟩,
  ⟨.mv (.lit (.int .i64 0)), none, (some 19), []⟩]
def m37r6 : List MOper := [⟨.bin .lss .other (.tmp 19) (.tmp 18), none, (some 20), [19, 18]⟩]
def m37r7 : List MOper := [⟨.iaddr 1 (.tmp 17) (.tmp 19), none, (some 21), [17, 19]⟩,
  ⟨.load none (.tmp 21), none, (some 22), [21]⟩,
  ⟨.mv (.tmp 22), none, (some 7), [22]⟩]
def m37r8 : List MOper := [⟨.mv (.tmp 5), none, (some 23), [5]⟩,
  ⟨.bin .shl .other (.tmp 23) (.lit (.int .u64 8)), none, (some 24), [23]⟩,
  ⟨.mv (.tmp 7), none, (some 25), [7]⟩,
  ⟨.conv .i64 (.tmp 25), none, (some 26), [25]⟩,
  ⟨.bin .or .other (.tmp 24) (.tmp 26), none, (some 27), [24, 26]⟩,
  ⟨.mv (.tmp 27), none, (some 5), [27]⟩]
def m37r9 : List MOper := [⟨.bin .add .other (.tmp 19) (.lit (.int .i64 1)), none, (some 28), [19]⟩,
  ⟨.mv (.tmp 28), none, (some 19), [28]⟩]
def m37l10 : MCode := (.seq (.region m37r6 [0, 2, 5, 17, 18, 19, 20])
  (.seq (.cond (.tmp 20)
  .skip
  (.exit 0))
  (.seq (.block 1 (.seq (.region m37r7 [0, 2, 5, 7, 17, 18, 19])
  (.region m37r8 [0, 2, 5, 17, 18, 19])))
  (.region m37r9 [0, 2, 5, 17, 18, 19]))))
def m37r11 : List MOper := [⟨.load none (.tmp 2), none, (some 29), [2]⟩,
  ⟨.mv (.tmp 0), none, (some 30), [0]⟩,
  ⟨.slc 1 (.tmp 29) (some (.tmp 30)) none none, none, (some 31), [29, 30]⟩,
  ⟨.store 1 (.tmp 2) (.tmp 31), none, none, [2, 31]⟩]
def m37r12 : List MOper := [⟨.mv (.tmp 5), none, (some 32), [5]⟩,
  ⟨.mv (.tmp 32), none, (some 4), [32]⟩]
def m37 : MFunc := ⟨33, [.tmp 4],
  (.seq (.region m37r0 [0, 1, 2])
  (.seq (.seq (.region m37r1 [0, 1, 2, 14])
  (.cond (.tmp 14)
  (.seq (.region m37r2 [])
  (.seq (.region m37r3 [4])
  .ret))
  .skip))
  (.seq (.region m37r4 [0, 2, 5])
  (.seq (.seq (.region m37r5 [0, 2, 5, 17, 18, 19])
  (.block 0 (.loop [0, 2, 5, 17, 18, 19] m37l10)))
  (.seq (.region m37r11 [5])
  (.seq (.region m37r12 [4])
  .ret))))))⟩
def h37 : List RH := [⟨[0, 1, 2], 0, false, []⟩, ⟨[0, 1, 2, 14], 0, false, []⟩, ⟨[], 0, false, []⟩, ⟨[4], 0, false, []⟩, ⟨[0, 2, 5], 0, false, []⟩, ⟨[0, 2, 5, 17, 18, 19], 0, false, []⟩, ⟨[0, 2, 5, 17, 18, 19], 0, false, []⟩, ⟨[0, 2, 5, 17, 18, 19, 20], 0, false, []⟩, ⟨[0, 2, 5, 7, 17, 18, 19], 0, false, []⟩, ⟨[0, 2, 5, 17, 18, 19], 0, false, []⟩, ⟨[0, 2, 5, 17, 18, 19], 0, false, []⟩, ⟨[5], 0, false, []⟩, ⟨[4], 0, false, []⟩]
theorem m37_ok : cmpFn Try.prog 37 h37 = some m37 := by kernel_rfl

/- dialtone/registrar.DecodeAct$2 -/
def m38r0 : List MOper := [⟨.mv (.lit (.str [])), none, (some 3), []⟩]
def m38r1 : List MOper := [⟨.load none (.tmp 0), none, (some 6), [0]⟩,
  ⟨.callv (.tmp 6) [(.lit (.int .i64 2))], none, (some 7), [6]⟩,
  ⟨.mv (.tmp 7), none, (some 4), [7]⟩]
def m38r2 : List MOper := [⟨.load none (.tmp 1), none, (some 8), [1]⟩,
  ⟨.mv (.tmp 8), none, (some 9), [8]⟩,
  ⟨.load none (.tmp 2), (some (9, false)), (some 10), [2]⟩,
  ⟨.len 1 (.tmp 10), (some (9, false)), (some 11), [10]⟩,
  ⟨.mv (.tmp 4), (some (9, false)), (some 12), [4]⟩,
  ⟨.bin .lss .other (.tmp 11) (.tmp 12), (some (9, false)), (some 13), [11, 12]⟩,
  ⟨.pick (.tmp 9) (.lit (.bool true)) (.tmp 13), none, (some 14), [9, 13]⟩]
def m38r3 : List MOper := [⟨.store 1 (.tmp 1) (.lit (.bool true)), none, none, [1]⟩]
def m38r4 : List MOper := [⟨.mv (.lit (.str [])), none, (some 3), []⟩]
def m38r5 : List MOper := [⟨.load none (.tmp 2), none, (some 15), [2]⟩,
  ⟨.mv (.tmp 4), none, (some 16), [4]⟩,
  ⟨.slc 1 (.tmp 15) none (some (.tmp 16)) none, none, (some 17), [15, 16]⟩,
  ⟨.tostr (.tmp 17), none, (some 18), [17]⟩,
  ⟨.mv (.tmp 18), none, (some 5), [18]⟩]
def m38r6 : List MOper := [⟨.load none (.tmp 2), none, (some 19), [2]⟩,
  ⟨.mv (.tmp 4), none, (some 20), [4]⟩,
  ⟨.slc 1 (.tmp 19) (some (.tmp 20)) none none, none, (some 21), [19, 20]⟩,
  ⟨.store 1 (.tmp 2) (.tmp 21), none, none, [2, 21]⟩]
def m38r7 : List MOper := [⟨.mv (.tmp 5), none, (some 22), [5]⟩,
  ⟨.mv (.tmp 22), none, (some 3), [22]⟩]
def m38 : MFunc := ⟨23, [.tmp 3],
  (.seq (.region m38r0 [0, 1, 2])
  (.seq (.region m38r1 [1, 2, 4])
  (.seq (.seq (.region m38r2 [1, 2, 4, 14])
  (.cond (.tmp 14)
  (.seq (.region m38r3 [])
  (.seq (.region m38r4 [3])
  .ret))
  .skip))
  (.seq (.region m38r5 [2, 4, 5])
  (.seq (.region m38r6 [5])
  (.seq (.region m38r7 [3])
  .ret))))))⟩
def h38 : List RH := [⟨[0, 1, 2], 0, false, []⟩, ⟨[1, 2, 4], 0, false, []⟩, ⟨[1, 2, 4, 14], 0, false, []⟩, ⟨[], 0, false, []⟩, ⟨[3], 0, false, []⟩, ⟨[2, 4, 5], 0, false, []⟩, ⟨[5], 0, false, []⟩, ⟨[3], 0, false, []⟩]
theorem m38_ok : cmpFn Try.prog 38 h38 = some m38 := by kernel_rfl

/- dialtone/registrar.DecodeAct$3 -/
def m39r0 : List MOper := [⟨.mv (.lit (.int .i64 0)), none, (some 1), []⟩]
def m39r1 : List MOper := [⟨.load none (.tmp 0), none, (some 2), [0]⟩,
  ⟨.callv (.tmp 2) [(.lit (.int .i64 4))], none, (some 3), [2]⟩,
  ⟨.conv .i32 (.tmp 3), none, (some 4), [3]⟩,
  ⟨.conv .i64 (.tmp 4), none, (some 5), [4]⟩,
  ⟨.mv (.tmp 5), none, (some 1), [5]⟩]
def m39 : MFunc := ⟨6, [.tmp 1],
  (.seq (.region m39r0 [0])
  (.seq (.region m39r1 [1])
  .ret))⟩
def h39 : List RH := [⟨[0], 0, false, []⟩, ⟨[1], 0, false, []⟩]
theorem m39_ok : cmpFn Try.prog 39 h39 = some m39 := by kernel_rfl

/- (*dialtone/dialtoneref22.reader).take -/
def m40r0 : List MOper := [⟨.mv (.lit .nils), none, (some 4), []⟩]
def m40r1 : List MOper := [⟨.mv (.tmp 0), none, (some 6), [0]⟩,
  ⟨.nilchk (.tmp 6), none, (some 7), [6]⟩,
  ⟨.faddr 1 (.tmp 7), none, (some 8), [7]⟩,
  ⟨.load none (.tmp 8), none, (some 9), [8]⟩,
  ⟨.mv (.tmp 9), none, (some 10), [9]⟩,
  ⟨.mv (.tmp 1), (some (10, false)), (some 11), [1]⟩,
  ⟨.mv (.tmp 0), (some (10, false)), (some 12), [0]⟩,
  ⟨.nilchk (.tmp 12), (some (10, false)), (some 13), [12]⟩,
  ⟨.faddr 0 (.tmp 13), (some (10, false)), (some 14), [13]⟩,
  ⟨.load none (.tmp 14), (some (10, false)), (some 15), [14]⟩,
  ⟨.len 1 (.tmp 15), (some (10, false)), (some 16), [15]⟩,
  ⟨.bin .gtr .other (.tmp 11) (.tmp 16), (some (10, false)), (some 17), [11, 16]⟩,
  ⟨.pick (.tmp 10) (.lit (.bool true)) (.tmp 17), none, (some 18), [10, 17]⟩]
def m40r2 : List MOper := [⟨.mv (.tmp 0), none, (some 19), [0]⟩,
  ⟨.nilchk (.tmp 19), none, (some 20), [19]⟩,
  ⟨.faddr 1 (.tmp 20), none, (some 21), [20]⟩,
  ⟨.store 1 (.tmp 21) (.lit (.bool true)), none, none, [21]⟩]
def m40r3 : List MOper := [⟨.mv (.lit .nils), none, (some 4), []⟩]
def m40r4 : List MOper := [⟨.mv (.tmp 0), none, (some 22), [0]⟩,
  ⟨.nilchk (.tmp 22), none, (some 23), [22]⟩,
  ⟨.faddr 0 (.tmp 23), none, (some 24), [23]⟩,
  ⟨.load none (.tmp 24), none, (some 25), [24]⟩,
  ⟨.mv (.tmp 1), none, (some 26), [1]⟩,
  ⟨.slc 1 (.tmp 25) none (some (.tmp 26)) none, none, (some 27), [25, 26]⟩,
  ⟨.mv (.tmp 27), none, (some 5), [27]⟩]
def m40r5 : List MOper := [⟨.mv (.tmp 0), none, (some 28), [0]⟩,
  ⟨.mv (.tmp 0), none, (some 29), [0]⟩,
  ⟨.nilchk (.tmp 29), none, (some 30), [29]⟩,
  ⟨.faddr 0 (.tmp 30), none, (some 31), [30]⟩,
  ⟨.load none (.tmp 31), none, (some 32), [31]⟩,
  ⟨.mv (.tmp 1), none, (some 33), [1]⟩,
  ⟨.slc 1 (.tmp 32) (some (.tmp 33)) none none, none, (some 34), [32, 33]⟩,
  ⟨.nilchk (.tmp 28), none, (some 35), [28]⟩,
  ⟨.faddr 0 (.tmp 35), none, (some 36), [35]⟩,
  ⟨.store 1 (.tmp 36) (.tmp 34), none, none, [36, 34]⟩]
def m40r6 : List MOper := [⟨.mv (.tmp 5), none, (some 37), [5]⟩,
  ⟨.mv (.tmp 37), none, (some 4), [37]⟩]
def m40 : MFunc := ⟨38, [.tmp 4],
  (.seq (.region m40r0 [0, 1])
  (.seq (.seq (.region m40r1 [0, 1, 18])
  (.cond (.tmp 18)
  (.seq (.region m40r2 [])
  (.seq (.region m40r3 [4])
  .ret))
  .skip))
  (.seq (.region m40r4 [0, 1, 5])
  (.seq (.region m40r5 [5])
  (.seq (.region m40r6 [4])
  .ret)))))⟩
def h40 : List RH := [⟨[0, 1], 0, false, []⟩, ⟨[0, 1, 18], 0, false, []⟩, ⟨[], 0, false, []⟩, ⟨[4], 0, false, []⟩, ⟨[0, 1, 5], 0, false, []⟩, ⟨[5], 0, false, []⟩, ⟨[4], 0, false, []⟩]
theorem m40_ok : cmpFn Try.prog 40 h40 = some m40 := by kernel_rfl

/- (*dialtone/dialtoneref22.reader).number -/
def m41r0 : List MOper := [⟨.mv (.lit (.int .i64 0)), none, (some 4), []⟩]
def m41r1 : List MOper := [⟨.mv (.tmp 0), none, (some 8), [0]⟩,
  ⟨.mv (.tmp 1), none, (some 9), [1]⟩,
  ⟨.call 40 [(.tmp 8), (.tmp 9)], none, (some 10), [8, 9]⟩,
  ⟨.mv (.tmp 10), none, (some 5), [10]⟩]
def m41r2 : List MOper := [⟨.mv (.lit (.int .i64 0)), none, (some 6), []⟩]
def m41r3 : List MOper := [⟨.mv (.lit (.int .i64 0)), none, (some 7), []⟩]
def m41r4 : List MOper := [⟨.mv (.tmp 7), none, (some 11), [7]⟩,
  ⟨.mv (.tmp 5), none, (some 12), [5]⟩,
  ⟨.len 1 (.tmp 12), none, (some 13), [12]⟩,
  ⟨.bin .lss .other (.tmp 11) (.tmp 13), none, (some 14), [11, 13]⟩]
def m41r5 : List MOper := [⟨.mv (.tmp 6), none, (some 17), [6]⟩,
  ⟨.bin .mul .other (.lit (.int .i64 256)) (.tmp 17), none, (some 18), [17]⟩,
  ⟨.mv (.tmp 5), none, (some 19), [5]⟩,
  ⟨.mv (.tmp 7), none, (some 20), [7]⟩,
  ⟨.iaddr 1 (.tmp 19) (.tmp 20), none, (some 21), [19, 20]⟩,
  ⟨.load none (.tmp 21), none, (some 22), [21]⟩,
  ⟨.conv .i64 (.tmp 22), none, (some 23), [22]⟩,
  ⟨.bin .add .other (.tmp 18) (.tmp 23), none, (some 24), [18, 23]⟩,
  ⟨.mv (.tmp 24), none, (some 6), [24]⟩]
def m41r6 : List MOper := [⟨.mv (.tmp 7), none, (some 15), [7]⟩,
  ⟨.bin .add .other (.tmp 15) (.lit (.int .i64 1)), none, (some 16), [15]⟩,
  ⟨.mv (.tmp 16), none, (some 7), [16]⟩]
def m41l7 : MCode := (.seq (.seq (.region m41r4 [1, 5, 6, 7, 14])
  (.cond (.tmp 14)
  .skip
  (.exit 0)))
  (.seq (.block 1 (.region m41r5 [1, 5, 6, 7]))
  (.region m41r6 [1, 5, 6, 7])))
def m41r8 : List MOper := [⟨.mv (.tmp 1), none, (some 25), [1]⟩,
  ⟨.bin .eql .other (.tmp 25) (.lit (.int .i64 4)), none, (some 26), [25]⟩,
  ⟨.mv (.tmp 26), none, (some 27), [26]⟩,
  ⟨.mv (.tmp 6), (some (27, true)), (some 28), [6]⟩,
  ⟨.bin .gtr .other (.tmp 28) (.lit (.int .i64 2147483647)), (some (27, true)), (some 29), [28]⟩,
  ⟨.pick (.tmp 27) (.tmp 29) (.lit (.bool false)), none, (some 30), [27, 29]⟩]
def m41r9 : List MOper := [⟨.mv (.tmp 6), none, (some 31), [6]⟩,
  ⟨.bin .sub .other (.tmp 31) (.lit (.int .i64 4294967296)), none, (some 32), [31]⟩,
  ⟨.mv (.tmp 32), none, (some 6), [32]⟩]
def m41r10 : List MOper := [⟨.mv (.tmp 6), none, (some 33), [6]⟩,
  ⟨.mv (.tmp 33), none, (some 4), [33]⟩]
def m41 : MFunc := ⟨34, [.tmp 4],
  (.seq (.region m41r0 [0, 1])
  (.seq (.region m41r1 [1, 5])
  (.seq (.region m41r2 [1, 5, 6])
  (.seq (.seq (.region m41r3 [1, 5, 6, 7])
  (.block 0 (.loop [1, 5, 6, 7] m41l7)))
  (.seq (.seq (.region m41r8 [6, 30])
  (.cond (.tmp 30)
  (.region m41r9 [6])
  .skip))
  (.seq (.region m41r10 [4])
  .ret))))))⟩
def h41 : List RH := [⟨[0, 1], 0, false, []⟩, ⟨[1, 5], 0, false, []⟩, ⟨[1, 5, 6], 0, false, []⟩, ⟨[1, 5, 6, 7], 0, false, []⟩, ⟨[1, 5, 6, 7], 0, false, []⟩, ⟨[1, 5, 6, 7, 14], 0, false, []⟩, ⟨[1, 5, 6, 7], 0, false, []⟩, ⟨[1, 5, 6, 7], 0, false, []⟩, ⟨[6, 30], 0, false, []⟩, ⟨[6], 0, false, []⟩, ⟨[4], 0, false, []⟩]
theorem m41_ok : cmpFn Try.prog 41 h41 = some m41 := by kernel_rfl

/- (*dialtone/dialtoneref22.reader).text -/
def m42r0 : List MOper := [⟨.mv (.lit (.str [])), none, (some 2), []⟩]
def m42r1 : List MOper := [⟨.mv (.tmp 0), none, (some 3), [0]⟩,
  ⟨.mv (.tmp 0), none, (some 4), [0]⟩,
  ⟨.call 41 [(.tmp 4), (.lit (.int .i64 2))], none, (some 5), [4]⟩,
  ⟨.call 40 [(.tmp 3), (.tmp 5)], none, (some 6), [3, 5]⟩,
  ⟨.tostr (.tmp 6), none, (some 7), [6]⟩,
  ⟨.mv (.tmp 7), none, (some 2), [7]⟩]
def m42 : MFunc := ⟨8, [.tmp 2],
  (.seq (.region m42r0 [0])
  (.seq (.region m42r1 [2])
  .ret))⟩
def h42 : List RH := [⟨[0], 0, false, []⟩, ⟨[2], 0, false, []⟩]
theorem m42_ok : cmpFn Try.prog 42 h42 = some m42 := by kernel_rfl

/- dialtone/dialtoneref22.strings -/
def m43r0 : List MOper := [⟨.mv (.lit (.bool false)), none, (some 4), []⟩]
def m43r1 : List MOper := [⟨.mv (.tmp 0), none, (some 6), [0]⟩,
  ⟨.len 1 (.tmp 6), none, (some 7), [6]⟩,
  ⟨.mv (.tmp 1), none, (some 8), [1]⟩,
  ⟨.len 1 (.tmp 8), none, (some 9), [8]⟩,
  ⟨.bin .neq .other (.tmp 7) (.tmp 9), none, (some 10), [7, 9]⟩]
def m43r2 : List MOper := [⟨.mv (.lit (.bool false)), none, (some 4), []⟩]
def m43r3 : List MOper := [⟨.mv (.lit (.int .i64 0)), none, (some 5), []⟩]
def m43r4 : List MOper := [⟨.mv (.tmp 5), none, (some 11), [5]⟩,
  ⟨.mv (.tmp 0), none, (some 12), [0]⟩,
  ⟨.len 1 (.tmp 12), none, (some 13), [12]⟩,
  ⟨.bin .lss .other (.tmp 11) (.tmp 13), none, (some 14), [11, 13]⟩]
def m43r5 : List MOper := [⟨.mv (.tmp 0), none, (some 17), [0]⟩,
  ⟨.mv (.tmp 5), none, (some 18), [5]⟩,
  ⟨.iaddr 1 (.tmp 17) (.tmp 18), none, (some 19), [17, 18]⟩,
  ⟨.load none (.tmp 19), none, (some 20), [19]⟩,
  ⟨.mv (.tmp 1), none, (some 21), [1]⟩,
  ⟨.mv (.tmp 5), none, (some 22), [5]⟩,
  ⟨.iaddr 1 (.tmp 21) (.tmp 22), none, (some 23), [21, 22]⟩,
  ⟨.load none (.tmp 23), none, (some 24), [23]⟩]
def m43r6 : List MOper := [⟨.bin .neq .other (.tmp 20) (.tmp 24), none, (some 25), [20, 24]⟩]
def m43r7 : List MOper := [⟨.mv (.lit (.bool false)), none, (some 4), []⟩]
def m43r8 : List MOper := [⟨.mv (.tmp 5), none, (some 15), [5]⟩,
  ⟨.bin .add .other (.tmp 15) (.lit (.int .i64 1)), none, (some 16), [15]⟩,
  ⟨.mv (.tmp 16), none, (some 5), [16]⟩]
def m43l9 : MCode := (.seq (.seq (.region m43r4 [0, 1, 5, 14])
  (.cond (.tmp 14)
  .skip
  (.exit 0)))
  (.seq (.block 1 (.seq (.dregion m43r5 m43r6 [] [0, 1, 5, 25])
  (.cond (.tmp 25)
  (.seq (.region m43r7 [4])
  .ret)
  .skip)))
  (.region m43r8 [0, 1, 5])))
def m43r10 : List MOper := [⟨.mv (.lit (.bool true)), none, (some 4), []⟩]
def m43 : MFunc := ⟨26, [.tmp 4],
  (.seq (.region m43r0 [0, 1])
  (.seq (.seq (.region m43r1 [0, 1, 10])
  (.cond (.tmp 10)
  (.seq (.region m43r2 [4])
  .ret)
  .skip))
  (.seq (.seq (.region m43r3 [0, 1, 5])
  (.block 0 (.loop [0, 1, 5] m43l9)))
  (.seq (.region m43r10 [4])
  .ret))))⟩
def h43 : List RH := [⟨[0, 1], 0, false, []⟩, ⟨[0, 1, 10], 0, false, []⟩, ⟨[4], 0, false, []⟩, ⟨[0, 1, 5], 0, false, []⟩, ⟨[0, 1, 5], 0, false, []⟩, ⟨[0, 1, 5, 14], 0, false, []⟩, ⟨[0, 1, 5, 25], 8, false, []⟩, ⟨[4], 0, false, []⟩, ⟨[0, 1, 5], 0, false, []⟩, ⟨[4], 0, false, []⟩]
theorem m43_ok : cmpFn Try.prog 43 h43 = some m43 := by kernel_rfl

/- slices.IndexFunc[[]string,string] -/
def m54r0 : List MOper := [⟨.mv (.lit (.int .i64 0)), none, (some 4), []⟩]
def m54r1 : List MOper := [⟨.mv (.tmp 0), none, (some 6), [0]⟩,
  ⟨.len 1 (.tmp 6), none, (some 7), [6]⟩,
  ⟨.mv (.lit (.int .i64 0)), none, (some 8), []⟩]
def m54r2 : List MOper := [⟨.bin .lss .other (.tmp 8) (.tmp 7), none, (some 9), [8, 7]⟩]
def m54r3 : List MOper := [⟨.mv (.tmp 8), none, (some 10), [8]⟩,
  ⟨.mv (.tmp 10), none, (some 5), [10]⟩]
def m54r4 : List MOper := [⟨.mv (.tmp 1), none, (some 11), [1]⟩,
  ⟨.mv (.tmp 0), none, (some 12), [0]⟩,
  ⟨.mv (.tmp 5), none, (some 13), [5]⟩,
  ⟨.iaddr 1 (.tmp 12) (.tmp 13), none, (some 14), [12, 13]⟩,
  ⟨.load none (.tmp 14), none, (some 15), [14]⟩,
  ⟨.callv (.tmp 11) [(.tmp 15)], none, (some 16), [11, 15]⟩]
def m54r5 : List MOper := [⟨.mv (.tmp 5), none, (some 17), [5]⟩,
  ⟨.mv (.tmp 17), none, (some 4), [17]⟩]
def m54r6 : List MOper := [⟨.bin .add .other (.tmp 8) (.lit (.int .i64 1)), none, (some 18), [8]⟩,
  ⟨.mv (.tmp 18), none, (some 8), [18]⟩]
def m54l7 : MCode := (.seq (.region m54r2 [0, 1, 7, 8, 9])
  (.seq (.cond (.tmp 9)
  .skip
  (.exit 0))
  (.seq (.block 1 (.seq (.region m54r3 [0, 1, 5, 7, 8])
  (.seq (.region m54r4 [0, 1, 5, 7, 8, 16])
  (.cond (.tmp 16)
  (.seq (.region m54r5 [4])
  .ret)
  .skip))))
  (.region m54r6 [0, 1, 7, 8]))))
def m54r8 : List MOper := [⟨.mv (.lit (.int .i64 (-1))), none, (some 4), []⟩]
def m54 : MFunc := ⟨19, [.tmp 4],
  (.seq (.region m54r0 [0, 1])
  (.seq (.seq (.region m54r1 [0, 1, 7, 8])
  (.block 0 (.loop [0, 1, 7, 8] m54l7)))
  (.seq (.region m54r8 [4])
  .ret)))⟩
def h54 : List RH := [⟨[0, 1], 0, false, []⟩, ⟨[0, 1, 7, 8], 0, false, []⟩, ⟨[0, 1, 7, 8], 0, false, []⟩, ⟨[0, 1, 7, 8, 9], 0, false, []⟩, ⟨[0, 1, 5, 7, 8], 0, false, []⟩, ⟨[0, 1, 5, 7, 8, 16], 0, false, []⟩, ⟨[4], 0, false, []⟩, ⟨[0, 1, 7, 8], 0, false, []⟩, ⟨[4], 0, false, []⟩]
theorem m54_ok : cmpFn Try.prog 54 h54 = some m54 := by kernel_rfl

end Go.Ab.Try.S
