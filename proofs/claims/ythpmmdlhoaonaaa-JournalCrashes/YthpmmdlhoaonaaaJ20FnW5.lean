/-
  The translated functions of this claim, printed by a program of ours (gen.sh), with the kernel's word that they are the translation.
  Conditions: none.
-/
import Derived.Test.YthpmmdlhoaonaaaProg
import Derived.Test.YthpmmdlhoaonaaaAbEval
import Derived.KernelRfl
namespace Go.Ab.Try.W
open Go.Proofs
/- dialtone/dialtonelaw20.JournalCrashes -/
def m10r0 : List MOper := [⟨.mv (.lit (.bool false)), none, (some 2), []⟩]
def m10r1 : List MOper := [⟨.zbox [.nils, (.int .i64 0), (.int .i64 0)], none, (some 3), []⟩]
def m10r2 : List MOper := [⟨.mv (.lit .nils), none, (some 4), []⟩]
def m10r3 : List MOper := [⟨.mv (.lit (.int .i64 0)), none, (some 5), []⟩]
def m10r4 : List MOper := [⟨.mv (.lit (.int .i64 0)), none, (some 6), []⟩]
def m10r5 : List MOper := [⟨.mv (.tmp 6), none, (some 14), [6]⟩,
  ⟨.mv (.tmp 0), none, (some 15), [0]⟩,
  ⟨.len 1 (.tmp 15), none, (some 16), [15]⟩,
  ⟨.bin .lss .other (.tmp 14) (.tmp 16), none, (some 17), [14, 16]⟩,
  ⟨.mv (.tmp 17), none, (some 18), [17]⟩,
  ⟨.mv (.tmp 6), (some (18, true)), (some 19), [6]⟩,
  ⟨.bin .lss .other (.tmp 19) (.lit (.int .i64 40)), (some (18, true)), (some 20), [19]⟩,
  ⟨.pick (.tmp 18) (.tmp 20) (.lit (.bool false)), none, (some 21), [18, 20]⟩]
def m10r6 : List MOper := [⟨.mv (.tmp 0), none, (some 24), [0]⟩,
  ⟨.mv (.tmp 6), none, (some 25), [6]⟩,
  ⟨.iaddr 4 (.tmp 24) (.tmp 25), none, (some 26), [24, 25]⟩,
  ⟨.faddr 0 (.tmp 26), none, (some 27), [26]⟩,
  ⟨.load none (.tmp 27), none, (some 28), [27]⟩,
  ⟨.bin .rem .other (.tmp 28) (.lit (.int .u8 4)), none, (some 29), [28]⟩]
def m10r7 : List MOper := [⟨.bin .eql .other (.tmp 29) (.lit (.int .u8 0)), none, (some 60), [29]⟩,
  ⟨.mv (.tmp 60), none, (some 59), [60]⟩]
def m10r8 : List MOper := [⟨.load (some 3) (.tmp 3), none, (some 61), [3]⟩,
  ⟨.call 29 [(.tmp 61)], none, (some 62), [61]⟩,
  ⟨.store 3 (.tmp 3) (.tmp 62), none, none, [3, 62]⟩]
def m10r9 : List MOper := [⟨.mv (.tmp 4), none, (some 63), [4]⟩,
  ⟨.len 1 (.tmp 63), none, (some 64), [63]⟩,
  ⟨.mv (.tmp 64), none, (some 5), [64]⟩]
def m10r10 : List MOper := [⟨.bin .eql .other (.tmp 29) (.lit (.int .u8 1)), none, (some 66), [29]⟩,
  ⟨.mv (.tmp 66), none, (some 65), [66]⟩]
def m10r11 : List MOper := [⟨.load (some 3) (.tmp 3), none, (some 68), [3]⟩,
  ⟨.mv (.tmp 0), none, (some 69), [0]⟩,
  ⟨.mv (.tmp 6), none, (some 70), [6]⟩,
  ⟨.iaddr 4 (.tmp 69) (.tmp 70), none, (some 71), [69, 70]⟩,
  ⟨.faddr 3 (.tmp 71), none, (some 72), [71]⟩,
  ⟨.load none (.tmp 72), none, (some 73), [72]⟩,
  ⟨.conv .i64 (.tmp 73), none, (some 74), [73]⟩,
  ⟨.call 24 [(.tmp 68), (.tmp 74)], none, (some 75), [68, 74]⟩,
  ⟨.call 21 [(.tmp 75)], none, (some 76), [75]⟩,
  ⟨.mv (.tmp 76), none, (some 67), [76]⟩,
  ⟨.ext 0 (.tmp 67), none, (some 77), [67]⟩,
  ⟨.ext 1 (.tmp 67), none, (some 78), [67]⟩,
  ⟨.zbox [.nils, (.int .i64 0), (.int .i64 0)], none, (some 7), []⟩]
def m10r12 : List MOper := [⟨.store 3 (.tmp 7) (.tmp 77), none, none, [7, 77]⟩,
  ⟨.mv (.tmp 78), none, (some 8), [78]⟩]
def m10r13 : List MOper := [⟨.mv (.tmp 8), none, (some 79), [8]⟩,
  ⟨.len 1 (.tmp 79), none, (some 80), [79]⟩,
  ⟨.mv (.tmp 5), none, (some 81), [5]⟩,
  ⟨.bin .lss .other (.tmp 80) (.tmp 81), none, (some 82), [80, 81]⟩,
  ⟨.mv (.tmp 82), none, (some 83), [82]⟩,
  ⟨.mv (.tmp 8), (some (83, false)), (some 84), [8]⟩,
  ⟨.len 1 (.tmp 84), (some (83, false)), (some 85), [84]⟩,
  ⟨.mv (.tmp 4), (some (83, false)), (some 86), [4]⟩,
  ⟨.len 1 (.tmp 86), (some (83, false)), (some 87), [86]⟩,
  ⟨.bin .gtr .other (.tmp 85) (.tmp 87), (some (83, false)), (some 88), [85, 87]⟩,
  ⟨.pick (.tmp 83) (.lit (.bool true)) (.tmp 88), none, (some 89), [83, 88]⟩,
  ⟨.mv (.tmp 89), none, (some 90), [89]⟩,
  ⟨.mv (.tmp 8), (some (90, false)), (some 91), [8]⟩,
  ⟨.mv (.tmp 4), (some (90, false)), (some 92), [4]⟩,
  ⟨.mv (.tmp 8), (some (90, false)), (some 93), [8]⟩,
  ⟨.len 1 (.tmp 93), (some (90, false)), (some 94), [93]⟩,
  ⟨.slc 2 (.tmp 92) none (some (.tmp 94)) none, (some (90, false)), (some 95), [92, 94]⟩,
  ⟨.call 19 [(.tmp 91), (.tmp 95)], (some (90, false)), (some 96), [91, 95]⟩,
  ⟨.un .not (.tmp 96), (some (90, false)), (some 97), [96]⟩,
  ⟨.pick (.tmp 90) (.lit (.bool true)) (.tmp 97), none, (some 98), [90, 97]⟩,
  ⟨.mv (.tmp 98), none, (some 99), [98]⟩,
  ⟨.faddr 2 (.tmp 7), (some (99, false)), (some 100), [7]⟩,
  ⟨.load none (.tmp 100), (some (99, false)), (some 101), [100]⟩,
  ⟨.mv (.tmp 8), (some (99, false)), (some 102), [8]⟩,
  ⟨.len 1 (.tmp 102), (some (99, false)), (some 103), [102]⟩,
  ⟨.bin .neq .other (.tmp 101) (.tmp 103), (some (99, false)), (some 104), [101, 103]⟩,
  ⟨.pick (.tmp 99) (.lit (.bool true)) (.tmp 104), none, (some 105), [99, 104]⟩,
  ⟨.mv (.tmp 105), none, (some 106), [105]⟩,
  ⟨.faddr 1 (.tmp 7), (some (106, false)), (some 107), [7]⟩,
  ⟨.load none (.tmp 107), (some (106, false)), (some 108), [107]⟩,
  ⟨.faddr 0 (.tmp 7), (some (106, false)), (some 109), [7]⟩,
  ⟨.load none (.tmp 109), (some (106, false)), (some 110), [109]⟩,
  ⟨.len 1 (.tmp 110), (some (106, false)), (some 111), [110]⟩,
  ⟨.bin .neq .other (.tmp 108) (.tmp 111), (some (106, false)), (some 112), [108, 111]⟩,
  ⟨.pick (.tmp 106) (.lit (.bool true)) (.tmp 112), none, (some 113), [106, 112]⟩]
def m10r14 : List MOper := [⟨.mv (.lit (.bool false)), none, (some 2), []⟩]
def m10r15 : List MOper := [⟨.load (some 3) (.tmp 7), none, (some 114), [7]⟩,
  ⟨.store 3 (.tmp 3) (.tmp 114), none, none, [3, 114]⟩]
def m10r16 : List MOper := [⟨.mv (.tmp 4), none, (some 115), [4]⟩,
  ⟨.mv (.tmp 8), none, (some 116), [8]⟩,
  ⟨.len 1 (.tmp 116), none, (some 117), [116]⟩,
  ⟨.slc 2 (.tmp 115) none (some (.tmp 117)) none, none, (some 118), [115, 117]⟩,
  ⟨.mv (.tmp 118), none, (some 4), [118]⟩]
def m10r17 : List MOper := [⟨.mv (.tmp 8), none, (some 119), [8]⟩,
  ⟨.len 1 (.tmp 119), none, (some 120), [119]⟩,
  ⟨.mv (.tmp 120), none, (some 5), [120]⟩]
def m10r18 : List MOper := [⟨.mv (.tmp 0), none, (some 30), [0]⟩,
  ⟨.mv (.tmp 6), none, (some 31), [6]⟩,
  ⟨.iaddr 4 (.tmp 30) (.tmp 31), none, (some 32), [30, 31]⟩,
  ⟨.faddr 1 (.tmp 32), none, (some 33), [32]⟩,
  ⟨.faddr 1 (.tmp 33), none, (some 34), [33]⟩,
  ⟨.load none (.tmp 34), none, (some 35), [34]⟩,
  ⟨.len 1 (.tmp 35), none, (some 36), [35]⟩,
  ⟨.bin .gtr .other (.tmp 36) (.lit (.int .i64 200)), none, (some 37), [36]⟩]
def m10r19 : List MOper := [⟨.load (some 3) (.tmp 3), none, (some 39), [3]⟩,
  ⟨.mv (.tmp 0), none, (some 40), [0]⟩,
  ⟨.mv (.tmp 6), none, (some 41), [6]⟩,
  ⟨.iaddr 4 (.tmp 40) (.tmp 41), none, (some 42), [40, 41]⟩,
  ⟨.faddr 1 (.tmp 42), none, (some 43), [42]⟩,
  ⟨.load (some 2) (.tmp 43), none, (some 44), [43]⟩,
  ⟨.call 25 [(.tmp 39), (.tmp 44)], none, (some 45), [39, 44]⟩,
  ⟨.mv (.tmp 45), none, (some 38), [45]⟩,
  ⟨.ext 0 (.tmp 38), none, (some 46), [38]⟩,
  ⟨.ext 1 (.tmp 38), none, (some 47), [38]⟩,
  ⟨.zbox [.nils, (.int .i64 0), (.int .i64 0)], none, (some 9), []⟩]
def m10r20 : List MOper := [⟨.store 3 (.tmp 9) (.tmp 46), none, none, [9, 46]⟩,
  ⟨.mv (.tmp 47), none, (some 10), [47]⟩]
def m10r21 : List MOper := [⟨.mv (.tmp 10), none, (some 48), [10]⟩,
  ⟨.bin .neq .other (.tmp 48) (.lit (.int .u8 0)), none, (some 49), [48]⟩]
def m10r22 : List MOper := [⟨.mv (.lit (.bool false)), none, (some 2), []⟩]
def m10r23 : List MOper := [⟨.load (some 3) (.tmp 9), none, (some 50), [9]⟩,
  ⟨.store 3 (.tmp 3) (.tmp 50), none, none, [3, 50]⟩]
def m10r24 : List MOper := [⟨.mv (.tmp 4), none, (some 51), [4]⟩,
  ⟨.mv (.tmp 0), none, (some 52), [0]⟩,
  ⟨.mv (.tmp 6), none, (some 53), [6]⟩,
  ⟨.iaddr 4 (.tmp 52) (.tmp 53), none, (some 54), [52, 53]⟩,
  ⟨.faddr 1 (.tmp 54), none, (some 55), [54]⟩,
  ⟨.load (some 2) (.tmp 55), none, (some 56), [55]⟩,
  ⟨.mkfrz [(.int .u8 0), .nils] 1 [(0, (.tmp 56))], none, (some 57), [56]⟩,
  ⟨.append 2 32 (.tmp 51) (.tmp 57), none, (some 58), [51, 57]⟩,
  ⟨.mv (.tmp 58), none, (some 4), [58]⟩]
def m10r25 : List MOper := [⟨.mv (.tmp 6), none, (some 22), [6]⟩,
  ⟨.bin .add .other (.tmp 22) (.lit (.int .i64 1)), none, (some 23), [22]⟩,
  ⟨.mv (.tmp 23), none, (some 6), [23]⟩]
def m10l26 : MCode := (.seq (.seq (.seq .conv
  (.region m10r5 [0, 3, 4, 5, 6, 21]))
  (.cond (.tmp 21)
  .skip
  (.exit 0)))
  (.seq (.block 1 (.seq (.region m10r6 [0, 3, 4, 5, 6, 29])
  (.block 2 (.seq (.region m10r7 [0, 3, 4, 5, 6, 29, 59])
  (.cond (.tmp 59)
  (.seq (.region m10r8 [0, 3, 4, 6])
  (.region m10r9 [0, 3, 4, 5, 6]))
  (.seq (.region m10r10 [0, 3, 4, 5, 6, 65])
  (.cond (.tmp 65)
  (.seq (.dregion m10r11 m10r12 [] [0, 3, 4, 5, 6, 7, 8])
  (.seq (.seq (.region m10r13 [0, 3, 4, 6, 7, 8, 113])
  (.cond (.tmp 113)
  (.seq (.region m10r14 [2])
  .ret)
  .skip))
  (.seq (.region m10r15 [0, 3, 4, 6, 8])
  (.seq (.region m10r16 [0, 3, 4, 6, 8])
  (.region m10r17 [0, 3, 4, 5, 6])))))
  (.seq (.seq (.region m10r18 [0, 3, 4, 5, 6, 37])
  (.cond (.tmp 37)
  (.exit 1)
  .skip))
  (.seq (.dregion m10r19 m10r20 [] [0, 3, 4, 5, 6, 9, 10])
  (.seq (.seq (.region m10r21 [0, 3, 4, 5, 6, 9, 49])
  (.cond (.tmp 49)
  (.seq (.region m10r22 [2])
  .ret)
  .skip))
  (.seq (.region m10r23 [0, 3, 4, 5, 6])
  (.region m10r24 [0, 3, 4, 5, 6]))))))))))))
  (.region m10r25 [0, 3, 4, 5, 6])))
def m10r27 : List MOper := [⟨.faddr 0 (.tmp 3), none, (some 122), [3]⟩,
  ⟨.load none (.tmp 122), none, (some 123), [122]⟩,
  ⟨.call 18 [(.tmp 123)], none, (some 124), [123]⟩,
  ⟨.mv (.tmp 124), none, (some 121), [124]⟩,
  ⟨.ext 0 (.tmp 121), none, (some 125), [121]⟩,
  ⟨.ext 1 (.tmp 121), none, (some 126), [121]⟩,
  ⟨.ext 2 (.tmp 121), none, (some 127), [121]⟩,
  ⟨.mv (.tmp 125), none, (some 11), [125]⟩,
  ⟨.mv (.tmp 126), none, (some 12), [126]⟩,
  ⟨.mv (.tmp 127), none, (some 13), [127]⟩]
def m10r28 : List MOper := [⟨.mv (.tmp 13), none, (some 128), [13]⟩,
  ⟨.bin .eql .other (.tmp 128) (.lit (.int .u8 0)), none, (some 129), [128]⟩,
  ⟨.mv (.tmp 129), none, (some 130), [129]⟩,
  ⟨.mv (.tmp 12), (some (130, true)), (some 131), [12]⟩,
  ⟨.faddr 0 (.tmp 3), (some (130, true)), (some 132), [3]⟩,
  ⟨.load none (.tmp 132), (some (130, true)), (some 133), [132]⟩,
  ⟨.len 1 (.tmp 133), (some (130, true)), (some 134), [133]⟩,
  ⟨.bin .eql .other (.tmp 131) (.tmp 134), (some (130, true)), (some 135), [131, 134]⟩,
  ⟨.pick (.tmp 130) (.tmp 135) (.lit (.bool false)), none, (some 136), [130, 135]⟩,
  ⟨.mv (.tmp 136), none, (some 137), [136]⟩,
  ⟨.mv (.tmp 4), (some (137, true)), (some 138), [4]⟩,
  ⟨.mv (.tmp 11), (some (137, true)), (some 139), [11]⟩,
  ⟨.call 19 [(.tmp 138), (.tmp 139)], (some (137, true)), (some 140), [138, 139]⟩,
  ⟨.pick (.tmp 137) (.tmp 140) (.lit (.bool false)), none, (some 141), [137, 140]⟩,
  ⟨.mv (.tmp 141), none, (some 142), [141]⟩,
  ⟨.call 11 [], (some (142, true)), (some 143), []⟩,
  ⟨.pick (.tmp 142) (.tmp 143) (.lit (.bool false)), none, (some 144), [142, 143]⟩,
  ⟨.mv (.tmp 144), none, (some 2), [144]⟩]
def m10 : MFunc := ⟨145, [.tmp 2],
  (.seq (.region m10r0 [0])
  (.seq (.region m10r1 [0, 3])
  (.seq (.region m10r2 [0, 3, 4])
  (.seq (.region m10r3 [0, 3, 4, 5])
  (.seq (.seq (.region m10r4 [0, 3, 4, 5, 6])
  (.block 0 (.loop [0, 3, 4, 5, 6] m10l26)))
  (.seq (.region m10r27 [3, 4, 11, 12, 13])
  (.seq (.region m10r28 [2])
  .ret)))))))⟩
def h10 : List RH := [⟨[0], 0, false, []⟩, ⟨[0, 3], 0, false, []⟩, ⟨[0, 3, 4], 0, false, []⟩, ⟨[0, 3, 4, 5], 0, false, []⟩, ⟨[0, 3, 4, 5, 6], 0, false, []⟩, ⟨[0, 3, 4, 5, 6], 0, false, []⟩, ⟨[0, 3, 4, 5, 6, 21], 0, true, []⟩, ⟨[0, 3, 4, 5, 6, 29], 0, false, []⟩, ⟨[0, 3, 4, 5, 6, 29, 59], 0, false, []⟩, ⟨[0, 3, 4, 6], 0, false, []⟩, ⟨[0, 3, 4, 5, 6], 0, false, []⟩, ⟨[0, 3, 4, 5, 6, 65], 0, false, []⟩, ⟨[0, 3, 4, 5, 6, 7, 8], 13, false, []⟩, ⟨[0, 3, 4, 6, 7, 8, 113], 0, false, []⟩, ⟨[2], 0, false, []⟩, ⟨[0, 3, 4, 6, 8], 0, false, []⟩, ⟨[0, 3, 4, 6, 8], 0, false, []⟩, ⟨[0, 3, 4, 5, 6], 0, false, []⟩, ⟨[0, 3, 4, 5, 6, 37], 0, false, []⟩, ⟨[0, 3, 4, 5, 6, 9, 10], 11, false, []⟩, ⟨[0, 3, 4, 5, 6, 9, 49], 0, false, []⟩, ⟨[2], 0, false, []⟩, ⟨[0, 3, 4, 5, 6], 0, false, []⟩, ⟨[0, 3, 4, 5, 6], 0, false, []⟩, ⟨[0, 3, 4, 5, 6], 0, false, []⟩, ⟨[3, 4, 11, 12, 13], 0, false, []⟩, ⟨[2], 0, false, []⟩]
theorem m10_ok : cmpFn Try.prog 10 h10 = some m10 := by kernel_rfl

end Go.Ab.Try.W
