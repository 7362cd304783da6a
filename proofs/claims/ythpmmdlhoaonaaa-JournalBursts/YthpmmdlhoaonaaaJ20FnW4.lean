/-
  The translated functions of this claim, printed by a program of ours (gen.sh), with the kernel's word that they are the translation.
  Conditions: none.
-/
import Derived.Test.YthpmmdlhoaonaaaProg
import Derived.Test.YthpmmdlhoaonaaaAbEval
import Derived.KernelRfl
namespace Go.Ab.Try.W
open Go.Proofs
/- dialtone/dialtonelaw20.JournalBursts -/
def m6r0 : List MOper := [⟨.mv (.lit (.bool false)), none, (some 8), []⟩]
def m6r1 : List MOper := [⟨.mv (.tmp 0), none, (some 22), [0]⟩,
  ⟨.call 16 [(.tmp 22)], none, (some 23), [22]⟩,
  ⟨.mv (.tmp 23), none, (some 0), [23]⟩]
def m6r2 : List MOper := [⟨.mv (.tmp 0), none, (some 25), [0]⟩,
  ⟨.call 17 [(.tmp 25)], none, (some 26), [25]⟩,
  ⟨.mv (.tmp 26), none, (some 24), [26]⟩,
  ⟨.ext 0 (.tmp 24), none, (some 27), [24]⟩,
  ⟨.ext 1 (.tmp 24), none, (some 28), [24]⟩,
  ⟨.ext 2 (.tmp 24), none, (some 29), [24]⟩,
  ⟨.zbox [.nils, (.int .i64 0), (.int .i64 0)], none, (some 9), []⟩,
  ⟨.store 3 (.tmp 9) (.tmp 27), none, none, [9, 27]⟩,
  ⟨.mv (.tmp 28), none, (some 10), [28]⟩,
  ⟨.mv (.tmp 29), none, (some 11), [29]⟩]
def m6r3 : List MOper := [⟨.mv (.tmp 11), none, (some 30), [11]⟩,
  ⟨.un .not (.tmp 30), none, (some 31), [30]⟩]
def m6r4 : List MOper := [⟨.mv (.lit (.bool false)), none, (some 8), []⟩]
def m6r5 : List MOper := [⟨.mv (.tmp 0), none, (some 32), [0]⟩,
  ⟨.len 1 (.tmp 32), none, (some 33), [32]⟩,
  ⟨.bin .eql .other (.tmp 33) (.lit (.int .i64 0)), none, (some 34), [33]⟩,
  ⟨.mv (.tmp 34), none, (some 35), [34]⟩,
  ⟨.mv (.tmp 0), (some (35, false)), (some 36), [0]⟩,
  ⟨.mv (.tmp 1), (some (35, false)), (some 37), [1]⟩,
  ⟨.conv .i64 (.tmp 37), (some (35, false)), (some 38), [37]⟩,
  ⟨.mv (.tmp 0), (some (35, false)), (some 39), [0]⟩,
  ⟨.len 1 (.tmp 39), (some (35, false)), (some 40), [39]⟩,
  ⟨.bin .rem .other (.tmp 38) (.tmp 40), (some (35, false)), (some 41), [38, 40]⟩,
  ⟨.iaddr 2 (.tmp 36) (.tmp 41), (some (35, false)), (some 42), [36, 41]⟩,
  ⟨.faddr 1 (.tmp 42), (some (35, false)), (some 43), [42]⟩,
  ⟨.load none (.tmp 43), (some (35, false)), (some 44), [43]⟩,
  ⟨.len 1 (.tmp 44), (some (35, false)), (some 45), [44]⟩,
  ⟨.bin .eql .other (.tmp 45) (.lit (.int .i64 0)), (some (35, false)), (some 46), [45]⟩,
  ⟨.pick (.tmp 35) (.lit (.bool true)) (.tmp 46), none, (some 47), [35, 46]⟩]
def m6r6 : List MOper := [⟨.call 11 [], none, (some 48), []⟩,
  ⟨.mv (.tmp 48), none, (some 8), [48]⟩]
def m6r7 : List MOper := [⟨.mv (.tmp 1), none, (some 49), [1]⟩,
  ⟨.conv .i64 (.tmp 49), none, (some 50), [49]⟩,
  ⟨.mv (.tmp 0), none, (some 51), [0]⟩,
  ⟨.len 1 (.tmp 51), none, (some 52), [51]⟩,
  ⟨.bin .rem .other (.tmp 50) (.tmp 52), none, (some 53), [50, 52]⟩,
  ⟨.mv (.tmp 53), none, (some 12), [53]⟩]
def m6r8 : List MOper := [⟨.mv (.tmp 0), none, (some 54), [0]⟩,
  ⟨.mv (.tmp 12), none, (some 55), [12]⟩,
  ⟨.iaddr 2 (.tmp 54) (.tmp 55), none, (some 56), [54, 55]⟩,
  ⟨.faddr 1 (.tmp 56), none, (some 57), [56]⟩,
  ⟨.load none (.tmp 57), none, (some 58), [57]⟩,
  ⟨.len 1 (.tmp 58), none, (some 59), [58]⟩,
  ⟨.bin .mul .other (.lit (.int .i64 8)) (.tmp 59), none, (some 60), [59]⟩,
  ⟨.mv (.tmp 60), none, (some 13), [60]⟩]
def m6r9 : List MOper := [⟨.mv (.tmp 10), none, (some 61), [10]⟩,
  ⟨.mv (.tmp 12), none, (some 62), [12]⟩,
  ⟨.iaddr 1 (.tmp 61) (.tmp 62), none, (some 63), [61, 62]⟩,
  ⟨.load none (.tmp 63), none, (some 64), [63]⟩,
  ⟨.bin .sub .other (.tmp 64) (.lit (.int .i64 4)), none, (some 65), [64]⟩,
  ⟨.mv (.tmp 0), none, (some 66), [0]⟩,
  ⟨.mv (.tmp 12), none, (some 67), [12]⟩,
  ⟨.iaddr 2 (.tmp 66) (.tmp 67), none, (some 68), [66, 67]⟩,
  ⟨.faddr 1 (.tmp 68), none, (some 69), [68]⟩,
  ⟨.load none (.tmp 69), none, (some 70), [69]⟩,
  ⟨.len 1 (.tmp 70), none, (some 71), [70]⟩]
def m6r10 : List MOper := [⟨.bin .sub .other (.tmp 65) (.tmp 71), none, (some 72), [65, 71]⟩,
  ⟨.mv (.tmp 72), none, (some 14), [72]⟩]
def m6r11 : List MOper := [⟨.mv (.lit .nils), none, (some 15), []⟩]
def m6r12 : List MOper := [⟨.mv (.tmp 15), none, (some 73), [15]⟩,
  ⟨.faddr 0 (.tmp 9), none, (some 74), [9]⟩,
  ⟨.load none (.tmp 74), none, (some 75), [74]⟩,
  ⟨.append 1 1 (.tmp 73) (.tmp 75), none, (some 76), [73, 75]⟩,
  ⟨.mv (.tmp 76), none, (some 15), [76]⟩]
def m6r13 : List MOper := [⟨.mv (.lit (.bool false)), none, (some 16), []⟩]
def m6r14 : List MOper := [⟨.mv (.lit (.int .i64 0)), none, (some 17), []⟩]
def m6r15 : List MOper := [⟨.mv (.tmp 17), none, (some 77), [17]⟩,
  ⟨.bin .lss .other (.tmp 77) (.lit (.int .i64 32)), none, (some 78), [77]⟩]
def m6r16 : List MOper := [⟨.mv (.tmp 2), none, (some 81), [2]⟩,
  ⟨.conv .i64 (.tmp 81), none, (some 82), [81]⟩,
  ⟨.mv (.tmp 13), none, (some 83), [13]⟩,
  ⟨.bin .rem .other (.tmp 82) (.tmp 83), none, (some 84), [82, 83]⟩,
  ⟨.mv (.tmp 17), none, (some 85), [17]⟩,
  ⟨.bin .add .other (.tmp 84) (.tmp 85), none, (some 86), [84, 85]⟩,
  ⟨.mv (.tmp 86), none, (some 18), [86]⟩]
def m6r17 : List MOper := [⟨.mv (.tmp 3), none, (some 87), [3]⟩,
  ⟨.mv (.tmp 17), none, (some 88), [17]⟩,
  ⟨.bin .shr .other (.tmp 87) (.tmp 88), none, (some 89), [87, 88]⟩,
  ⟨.bin .and .other (.tmp 89) (.lit (.int .u32 1)), none, (some 90), [89]⟩,
  ⟨.bin .eql .other (.tmp 90) (.lit (.int .u32 1)), none, (some 91), [90]⟩,
  ⟨.mv (.tmp 91), none, (some 92), [91]⟩,
  ⟨.mv (.tmp 18), (some (92, true)), (some 93), [18]⟩,
  ⟨.mv (.tmp 13), (some (92, true)), (some 94), [13]⟩,
  ⟨.bin .lss .other (.tmp 93) (.tmp 94), (some (92, true)), (some 95), [93, 94]⟩,
  ⟨.pick (.tmp 92) (.tmp 95) (.lit (.bool false)), none, (some 96), [92, 95]⟩]
def m6r18 : List MOper := [⟨.mv (.tmp 15), none, (some 97), [15]⟩,
  ⟨.mv (.tmp 14), none, (some 98), [14]⟩,
  ⟨.mv (.tmp 18), none, (some 99), [18]⟩,
  ⟨.bin .quo .other (.tmp 99) (.lit (.int .i64 8)), none, (some 100), [99]⟩,
  ⟨.bin .add .other (.tmp 98) (.tmp 100), none, (some 101), [98, 100]⟩,
  ⟨.mv (.tmp 15), none, (some 102), [15]⟩,
  ⟨.mv (.tmp 14), none, (some 103), [14]⟩,
  ⟨.mv (.tmp 18), none, (some 104), [18]⟩,
  ⟨.bin .quo .other (.tmp 104) (.lit (.int .i64 8)), none, (some 105), [104]⟩,
  ⟨.bin .add .other (.tmp 103) (.tmp 105), none, (some 106), [103, 105]⟩,
  ⟨.iaddr 1 (.tmp 102) (.tmp 106), none, (some 107), [102, 106]⟩,
  ⟨.load none (.tmp 107), none, (some 108), [107]⟩,
  ⟨.mv (.tmp 18), none, (some 109), [18]⟩,
  ⟨.bin .rem .other (.tmp 109) (.lit (.int .i64 8)), none, (some 110), [109]⟩,
  ⟨.bin .shl .other (.lit (.int .u8 1)) (.tmp 110), none, (some 111), [110]⟩]
def m6r19 : List MOper := [⟨.bin .xor .other (.tmp 108) (.tmp 111), none, (some 112), [108, 111]⟩,
  ⟨.iaddr 1 (.tmp 97) (.tmp 101), none, (some 113), [97, 101]⟩,
  ⟨.store 1 (.tmp 113) (.tmp 112), none, none, [113, 112]⟩]
def m6r20 : List MOper := [⟨.mv (.lit (.bool true)), none, (some 16), []⟩]
def m6r21 : List MOper := [⟨.mv (.tmp 17), none, (some 79), [17]⟩,
  ⟨.bin .add .other (.tmp 79) (.lit (.int .i64 1)), none, (some 80), [79]⟩,
  ⟨.mv (.tmp 80), none, (some 17), [80]⟩]
def m6l22 : MCode := (.seq (.seq (.region m6r15 [0, 2, 3, 10, 12, 13, 14, 15, 16, 17, 78])
  (.cond (.tmp 78)
  .skip
  (.exit 0)))
  (.seq (.block 1 (.seq (.region m6r16 [0, 2, 3, 10, 12, 13, 14, 15, 16, 17, 18])
  (.seq (.region m6r17 [0, 2, 3, 10, 12, 13, 14, 15, 16, 17, 18, 96])
  (.cond (.tmp 96)
  (.seq (.dregion m6r18 m6r19 [] [0, 2, 3, 10, 12, 13, 14, 15, 17])
  (.region m6r20 [0, 2, 3, 10, 12, 13, 14, 15, 16, 17]))
  .skip))))
  (.region m6r21 [0, 2, 3, 10, 12, 13, 14, 15, 16, 17])))
def m6r23 : List MOper := [⟨.mv (.tmp 15), none, (some 115), [15]⟩,
  ⟨.call 18 [(.tmp 115)], none, (some 116), [115]⟩,
  ⟨.mv (.tmp 116), none, (some 114), [116]⟩,
  ⟨.ext 0 (.tmp 114), none, (some 117), [114]⟩,
  ⟨.ext 1 (.tmp 114), none, (some 118), [114]⟩,
  ⟨.ext 2 (.tmp 114), none, (some 119), [114]⟩,
  ⟨.mv (.tmp 117), none, (some 19), [117]⟩,
  ⟨.mv (.tmp 118), none, (some 20), [118]⟩,
  ⟨.mv (.tmp 119), none, (some 21), [119]⟩]
def m6r24 : List MOper := [⟨.mv (.tmp 16), none, (some 120), [16]⟩,
  ⟨.un .not (.tmp 120), none, (some 121), [120]⟩]
def m6r25 : List MOper := [⟨.mv (.tmp 21), none, (some 122), [21]⟩,
  ⟨.bin .eql .other (.tmp 122) (.lit (.int .u8 0)), none, (some 123), [122]⟩,
  ⟨.mv (.tmp 123), none, (some 124), [123]⟩,
  ⟨.call 11 [], (some (124, true)), (some 125), []⟩,
  ⟨.pick (.tmp 124) (.tmp 125) (.lit (.bool false)), none, (some 126), [124, 125]⟩,
  ⟨.mv (.tmp 126), none, (some 8), [126]⟩]
def m6r26 : List MOper := [⟨.mv (.tmp 21), none, (some 127), [21]⟩,
  ⟨.bin .eql .other (.tmp 127) (.lit (.int .u8 11)), none, (some 128), [127]⟩,
  ⟨.mv (.tmp 128), none, (some 129), [128]⟩,
  ⟨.mv (.tmp 20), (some (129, true)), (some 130), [20]⟩,
  ⟨.mv (.tmp 10), (some (129, true)), (some 131), [10]⟩,
  ⟨.mv (.tmp 12), (some (129, true)), (some 132), [12]⟩,
  ⟨.iaddr 1 (.tmp 131) (.tmp 132), (some (129, true)), (some 133), [131, 132]⟩,
  ⟨.load none (.tmp 133), (some (129, true)), (some 134), [133]⟩,
  ⟨.bin .sub .other (.tmp 134) (.lit (.int .i64 14)), (some (129, true)), (some 135), [134]⟩,
  ⟨.mv (.tmp 0), (some (129, true)), (some 136), [0]⟩,
  ⟨.mv (.tmp 12), (some (129, true)), (some 137), [12]⟩,
  ⟨.iaddr 2 (.tmp 136) (.tmp 137), (some (129, true)), (some 138), [136, 137]⟩,
  ⟨.faddr 1 (.tmp 138), (some (129, true)), (some 139), [138]⟩,
  ⟨.load none (.tmp 139), (some (129, true)), (some 140), [139]⟩,
  ⟨.len 1 (.tmp 140), (some (129, true)), (some 141), [140]⟩,
  ⟨.bin .sub .other (.tmp 135) (.tmp 141), (some (129, true)), (some 142), [135, 141]⟩,
  ⟨.bin .eql .other (.tmp 130) (.tmp 142), (some (129, true)), (some 143), [130, 142]⟩,
  ⟨.pick (.tmp 129) (.tmp 143) (.lit (.bool false)), none, (some 144), [129, 143]⟩,
  ⟨.mv (.tmp 144), none, (some 145), [144]⟩,
  ⟨.mv (.tmp 0), (some (145, true)), (some 146), [0]⟩,
  ⟨.mv (.tmp 12), (some (145, true)), (some 147), [12]⟩,
  ⟨.slc 2 (.tmp 146) none (some (.tmp 147)) none, (some (145, true)), (some 148), [146, 147]⟩,
  ⟨.mv (.tmp 19), (some (145, true)), (some 149), [19]⟩]
def m6r27 : List MOper := [⟨.call 19 [(.tmp 148), (.tmp 149)], (some (145, true)), (some 150), [148, 149]⟩,
  ⟨.pick (.tmp 145) (.tmp 150) (.lit (.bool false)), none, (some 151), [145, 150]⟩,
  ⟨.mv (.tmp 151), none, (some 152), [151]⟩,
  ⟨.call 11 [], (some (152, true)), (some 153), []⟩,
  ⟨.pick (.tmp 152) (.tmp 153) (.lit (.bool false)), none, (some 154), [152, 153]⟩,
  ⟨.mv (.tmp 154), none, (some 8), [154]⟩]
def m6 : MFunc := ⟨155, [.tmp 8],
  (.seq (.region m6r0 [0, 1, 2, 3])
  (.seq (.region m6r1 [0, 1, 2, 3])
  (.seq (.region m6r2 [0, 1, 2, 3, 9, 10, 11])
  (.seq (.seq (.region m6r3 [0, 1, 2, 3, 9, 10, 31])
  (.cond (.tmp 31)
  (.seq (.region m6r4 [8])
  .ret)
  .skip))
  (.seq (.seq (.region m6r5 [0, 1, 2, 3, 9, 10, 47])
  (.cond (.tmp 47)
  (.seq (.region m6r6 [8])
  .ret)
  .skip))
  (.seq (.region m6r7 [0, 2, 3, 9, 10, 12])
  (.seq (.region m6r8 [0, 2, 3, 9, 10, 12, 13])
  (.seq (.dregion m6r9 m6r10 [] [0, 2, 3, 9, 10, 12, 13, 14])
  (.seq (.region m6r11 [0, 2, 3, 9, 10, 12, 13, 14, 15])
  (.seq (.region m6r12 [0, 2, 3, 10, 12, 13, 14, 15])
  (.seq (.region m6r13 [0, 2, 3, 10, 12, 13, 14, 15, 16])
  (.seq (.seq (.region m6r14 [0, 2, 3, 10, 12, 13, 14, 15, 16, 17])
  (.block 0 (.loop [0, 2, 3, 10, 12, 13, 14, 15, 16, 17] m6l22)))
  (.seq (.seq .conv
  (.region m6r23 [0, 10, 12, 16, 19, 20, 21]))
  (.seq (.seq (.region m6r24 [0, 10, 12, 19, 20, 21, 121])
  (.cond (.tmp 121)
  (.seq (.region m6r25 [8])
  .ret)
  .skip))
  (.seq (.dregion m6r26 m6r27 [] [8])
  .ret)))))))))))))))⟩
def h6 : List RH := [⟨[0, 1, 2, 3], 0, false, []⟩, ⟨[0, 1, 2, 3], 0, false, []⟩, ⟨[0, 1, 2, 3, 9, 10, 11], 0, false, []⟩, ⟨[0, 1, 2, 3, 9, 10, 31], 0, false, []⟩, ⟨[8], 0, false, []⟩, ⟨[0, 1, 2, 3, 9, 10, 47], 0, false, []⟩, ⟨[8], 0, false, []⟩, ⟨[0, 2, 3, 9, 10, 12], 0, false, []⟩, ⟨[0, 2, 3, 9, 10, 12, 13], 0, false, []⟩, ⟨[0, 2, 3, 9, 10, 12, 13, 14], 11, false, []⟩, ⟨[0, 2, 3, 9, 10, 12, 13, 14, 15], 0, false, []⟩, ⟨[0, 2, 3, 10, 12, 13, 14, 15], 0, false, []⟩, ⟨[0, 2, 3, 10, 12, 13, 14, 15, 16], 0, false, []⟩, ⟨[0, 2, 3, 10, 12, 13, 14, 15, 16, 17], 0, false, []⟩, ⟨[0, 2, 3, 10, 12, 13, 14, 15, 16, 17], 0, false, []⟩, ⟨[0, 2, 3, 10, 12, 13, 14, 15, 16, 17, 78], 0, false, []⟩, ⟨[0, 2, 3, 10, 12, 13, 14, 15, 16, 17, 18], 0, false, []⟩, ⟨[0, 2, 3, 10, 12, 13, 14, 15, 16, 17, 18, 96], 0, false, []⟩, ⟨[0, 2, 3, 10, 12, 13, 14, 15, 17], 15, false, []⟩, ⟨[0, 2, 3, 10, 12, 13, 14, 15, 16, 17], 0, false, []⟩, ⟨[0, 2, 3, 10, 12, 13, 14, 15, 16, 17], 0, false, []⟩, ⟨[0, 10, 12, 16, 19, 20, 21], 0, true, []⟩, ⟨[0, 10, 12, 19, 20, 21, 121], 0, false, []⟩, ⟨[8], 0, false, []⟩, ⟨[8], 23, false, []⟩]
theorem m6_ok : cmpFn Try.prog 6 h6 = some m6 := by kernel_rfl

end Go.Ab.Try.W
