/-
  The translated functions of this claim, printed by a program of ours (gen.sh), with the kernel's word that they are the translation.
  Conditions: none.
-/
import Derived.Test.YtjckmpmnomkmlaaDoorProg
import Derived.Test.YtjckmpmnomkmlaaDoorAbEval
import Derived.KernelRfl
namespace Go.Ab.Tryd.S
open Go.Proofs
/- dialtone/dialtonelaw37.few -/
def m10r0 : List MOper := [⟨.box 2 (.tmp 0), none, (some 1), [0]⟩,
  ⟨.mv (.lit (.bool false)), none, (some 2), []⟩]
def m10r1 : List MOper := [⟨.faddr 0 (.tmp 1), none, (some 4), [1]⟩,
  ⟨.load none (.tmp 4), none, (some 5), [4]⟩,
  ⟨.len 1 (.tmp 5), none, (some 6), [5]⟩,
  ⟨.bin .gtr .other (.tmp 6) (.lit (.int .i64 1100)), none, (some 7), [6]⟩]
def m10r2 : List MOper := [⟨.mv (.lit (.bool false)), none, (some 2), []⟩]
def m10r3 : List MOper := [⟨.mv (.lit (.int .i64 0)), none, (some 3), []⟩]
def m10r4 : List MOper := [⟨.mv (.tmp 3), none, (some 8), [3]⟩,
  ⟨.faddr 0 (.tmp 1), none, (some 9), [1]⟩,
  ⟨.load none (.tmp 9), none, (some 10), [9]⟩,
  ⟨.len 1 (.tmp 10), none, (some 11), [10]⟩,
  ⟨.bin .lss .other (.tmp 8) (.tmp 11), none, (some 12), [8, 11]⟩]
def m10r5 : List MOper := [⟨.faddr 0 (.tmp 1), none, (some 15), [1]⟩,
  ⟨.load none (.tmp 15), none, (some 16), [15]⟩,
  ⟨.mv (.tmp 3), none, (some 17), [3]⟩,
  ⟨.iaddr 5 (.tmp 16) (.tmp 17), none, (some 18), [16, 17]⟩,
  ⟨.faddr 4 (.tmp 18), none, (some 19), [18]⟩,
  ⟨.load none (.tmp 19), none, (some 20), [19]⟩,
  ⟨.len 1 (.tmp 20), none, (some 21), [20]⟩,
  ⟨.bin .gtr .other (.tmp 21) (.lit (.int .i64 40)), none, (some 22), [21]⟩,
  ⟨.mv (.tmp 22), none, (some 23), [22]⟩,
  ⟨.faddr 0 (.tmp 1), (some (23, false)), (some 24), [1]⟩,
  ⟨.load none (.tmp 24), (some (23, false)), (some 25), [24]⟩,
  ⟨.mv (.tmp 3), (some (23, false)), (some 26), [3]⟩,
  ⟨.iaddr 5 (.tmp 25) (.tmp 26), (some (23, false)), (some 27), [25, 26]⟩,
  ⟨.faddr 0 (.tmp 27), (some (23, false)), (some 28), [27]⟩,
  ⟨.load none (.tmp 28), (some (23, false)), (some 29), [28]⟩,
  ⟨.len 0 (.tmp 29), (some (23, false)), (some 30), [29]⟩,
  ⟨.bin .gtr .other (.tmp 30) (.lit (.int .i64 100)), (some (23, false)), (some 31), [30]⟩,
  ⟨.pick (.tmp 23) (.lit (.bool true)) (.tmp 31), none, (some 32), [23, 31]⟩]
def m10r6 : List MOper := [⟨.mv (.lit (.bool false)), none, (some 2), []⟩]
def m10r7 : List MOper := [⟨.mv (.tmp 3), none, (some 13), [3]⟩,
  ⟨.bin .add .other (.tmp 13) (.lit (.int .i64 1)), none, (some 14), [13]⟩,
  ⟨.mv (.tmp 14), none, (some 3), [14]⟩]
def m10l8 : MCode := (.seq (.seq (.region m10r4 [1, 3, 12])
  (.cond (.tmp 12)
  .skip
  (.exit 0)))
  (.seq (.block 1 (.seq (.region m10r5 [1, 3, 32])
  (.cond (.tmp 32)
  (.seq (.region m10r6 [2])
  .ret)
  .skip)))
  (.region m10r7 [1, 3])))
def m10r9 : List MOper := [⟨.mv (.lit (.bool true)), none, (some 2), []⟩]
def m10 : MFunc := ⟨33, [.tmp 2],
  (.seq (.region m10r0 [1])
  (.seq (.seq (.region m10r1 [1, 7])
  (.cond (.tmp 7)
  (.seq (.region m10r2 [2])
  .ret)
  .skip))
  (.seq (.seq (.region m10r3 [1, 3])
  (.block 0 (.loop [1, 3] m10l8)))
  (.seq (.region m10r9 [2])
  .ret))))⟩
def h10 : List RH := [⟨[1], 0, false, []⟩, ⟨[1, 7], 0, false, []⟩, ⟨[2], 0, false, []⟩, ⟨[1, 3], 0, false, []⟩, ⟨[1, 3], 0, false, []⟩, ⟨[1, 3, 12], 0, false, []⟩, ⟨[1, 3, 32], 0, false, []⟩, ⟨[2], 0, false, []⟩, ⟨[1, 3], 0, false, []⟩, ⟨[2], 0, false, []⟩]
theorem m10_ok : cmpFn Tryd.prog 10 h10 = some m10 := by kernel_rfl

/- dialtone/rating.Cost -/
def m12r0 : List MOper := [⟨.box 2 (.tmp 0), none, (some 4), [0]⟩,
  ⟨.box 1 (.tmp 2), none, (some 6), [2]⟩,
  ⟨.mv (.lit (.int .i64 0)), none, (some 8), []⟩,
  ⟨.mv (.lit (.int .u8 0)), none, (some 9), []⟩]
def m12r1 : List MOper := [⟨.load (some 2) (.tmp 4), none, (some 17), [4]⟩,
  ⟨.call 24 [(.tmp 17)], none, (some 18), [17]⟩,
  ⟨.un .not (.tmp 18), none, (some 19), [18]⟩,
  ⟨.mv (.tmp 19), none, (some 16), [19]⟩]
def m12r2 : List MOper := [⟨.mv (.lit (.int .i64 0)), none, (some 8), []⟩,
  ⟨.mv (.lit (.int .u8 2)), none, (some 9), []⟩]
def m12r3 : List MOper := [⟨.load none (.tmp 6), none, (some 21), [6]⟩,
  ⟨.mv (.tmp 3), none, (some 22), [3]⟩,
  ⟨.call 25 [(.tmp 21), (.tmp 22)], none, (some 23), [21, 22]⟩,
  ⟨.un .not (.tmp 23), none, (some 24), [23]⟩,
  ⟨.mv (.tmp 24), none, (some 20), [24]⟩]
def m12r4 : List MOper := [⟨.mv (.lit (.int .i64 0)), none, (some 8), []⟩,
  ⟨.mv (.lit (.int .u8 3)), none, (some 9), []⟩]
def m12r5 : List MOper := [⟨.load none (.tmp 6), none, (some 26), [6]⟩,
  ⟨.mv (.tmp 3), none, (some 27), [3]⟩,
  ⟨.call 18 [(.tmp 26), (.tmp 27)], none, (some 28), [26, 27]⟩,
  ⟨.bin .gtr .other (.tmp 28) (.lit (.int .i64 1000000)), none, (some 29), [28]⟩,
  ⟨.mv (.tmp 29), none, (some 25), [29]⟩]
def m12r6 : List MOper := [⟨.mv (.lit (.int .i64 0)), none, (some 8), []⟩,
  ⟨.mv (.lit (.int .u8 4)), none, (some 9), []⟩]
def m12r7 : List MOper := [⟨.load (some 2) (.tmp 4), none, (some 30), [4]⟩,
  ⟨.mv (.tmp 1), none, (some 31), [1]⟩,
  ⟨.call 26 [(.tmp 30), (.tmp 31)], none, (some 32), [30, 31]⟩,
  ⟨.mv (.tmp 32), none, (some 10), [32]⟩]
def m12r8 : List MOper := [⟨.mv (.tmp 10), none, (some 33), [10]⟩,
  ⟨.bin .lss .other (.tmp 33) (.lit (.int .i64 0)), none, (some 34), [33]⟩]
def m12r9 : List MOper := [⟨.mv (.lit (.int .i64 0)), none, (some 8), []⟩,
  ⟨.mv (.lit (.int .u8 8)), none, (some 9), []⟩]
def m12r10 : List MOper := [⟨.faddr 0 (.tmp 4), none, (some 35), [4]⟩,
  ⟨.load none (.tmp 35), none, (some 36), [35]⟩,
  ⟨.mv (.tmp 10), none, (some 37), [10]⟩,
  ⟨.iaddr 5 (.tmp 36) (.tmp 37), none, (some 38), [36, 37]⟩,
  ⟨.load (some 5) (.tmp 38), none, (some 39), [38]⟩,
  ⟨.zbox [(.str []), (.int .i64 0), (.int .i64 0), (.int .i64 0), .nils], none, (some 11), []⟩,
  ⟨.store 5 (.tmp 11) (.tmp 39), none, none, [11, 39]⟩]
def m12r11 : List MOper := [⟨.load (some 5) (.tmp 11), none, (some 40), [11]⟩,
  ⟨.faddr 1 (.tmp 4), none, (some 41), [4]⟩,
  ⟨.load none (.tmp 41), none, (some 42), [41]⟩,
  ⟨.load none (.tmp 6), none, (some 43), [6]⟩]
def m12r12 : List MOper := [⟨.mv (.tmp 3), none, (some 44), [3]⟩,
  ⟨.call 18 [(.tmp 43), (.tmp 44)], none, (some 45), [43, 44]⟩,
  ⟨.call 27 [(.tmp 40), (.tmp 42), (.tmp 45)], none, (some 46), [40, 42, 45]⟩,
  ⟨.mv (.tmp 46), none, (some 12), [46]⟩]
def m12r13 : List MOper := [⟨.load (some 5) (.tmp 11), none, (some 40), [11]⟩,
  ⟨.load none (.tmp 41), none, (some 42), [41]⟩,
  ⟨.load none (.tmp 6), none, (some 43), [6]⟩]
def m12r14 : List MOper := [⟨.load (some 5) (.tmp 11), none, (some 40), [11]⟩,
  ⟨.load none (.tmp 41), none, (some 42), [41]⟩,
  ⟨.load none (.tmp 6), none, (some 43), [6]⟩]
def m12r15 : List MOper := [⟨.load (some 5) (.tmp 11), none, (some 40), [11]⟩,
  ⟨.load none (.tmp 41), none, (some 42), [41]⟩]
def m12r16 : List MOper := [⟨.mv (.tmp 12), none, (some 47), [12]⟩,
  ⟨.bin .eql .other (.tmp 47) (.lit (.int .i64 0)), none, (some 48), [47]⟩]
def m12r17 : List MOper := [⟨.mv (.lit (.int .i64 0)), none, (some 8), []⟩,
  ⟨.mv (.lit (.int .u8 0)), none, (some 9), []⟩]
def m12r18 : List MOper := [⟨.faddr 1 (.tmp 11), none, (some 49), [11]⟩,
  ⟨.load none (.tmp 49), none, (some 50), [49]⟩,
  ⟨.zbox [(.int .i64 0)], none, (some 13), []⟩,
  ⟨.store 1 (.tmp 13) (.tmp 50), none, none, [13, 50]⟩]
def m12r19 : List MOper := [⟨.load (some 5) (.tmp 11), none, (some 51), [11]⟩,
  ⟨.faddr 1 (.tmp 4), none, (some 52), [4]⟩,
  ⟨.load none (.tmp 52), none, (some 53), [52]⟩,
  ⟨.mv (.tmp 12), none, (some 54), [12]⟩,
  ⟨.call 28 [(.tmp 51), (.tmp 53), (.tmp 54)], none, (some 55), [51, 53, 54]⟩]
def m12r20 : List MOper := [⟨.mv (.tmp 56), none, (some 14), [56]⟩]
def m12r21 : List MOper := [⟨.faddr 4 (.tmp 11), none, (some 57), [11]⟩,
  ⟨.load none (.tmp 57), none, (some 58), [57]⟩,
  ⟨.load (some 5) (.tmp 11), none, (some 59), [11]⟩,
  ⟨.load none (.tmp 6), none, (some 60), [6]⟩,
  ⟨.mv (.tmp 14), none, (some 61), [14]⟩,
  ⟨.bin .mul .other (.lit (.int .i64 1000)) (.tmp 61), none, (some 62), [61]⟩,
  ⟨.bin .add .other (.tmp 60) (.tmp 62), none, (some 63), [60, 62]⟩,
  ⟨.call 29 [(.tmp 59), (.tmp 63)], none, (some 64), [59, 63]⟩,
  ⟨.iaddr 5 (.tmp 58) (.tmp 64), none, (some 65), [58, 64]⟩,
  ⟨.load (some 5) (.tmp 65), none, (some 66), [65]⟩,
  ⟨.zbox [(.int .u8 0), (.int .i64 0), (.int .i64 0), (.int .i64 0), (.int .i64 0)], none, (some 15), []⟩]
def m12r22 : List MOper := [⟨.store 5 (.tmp 15) (.tmp 66), none, none, [15, 66]⟩]
def m12r23 : List MOper := [⟨.mv (.tmp 14), none, (some 67), [14]⟩,
  ⟨.faddr 1 (.tmp 4), none, (some 68), [4]⟩,
  ⟨.load none (.tmp 68), none, (some 69), [68]⟩,
  ⟨.bin .eql .other (.tmp 67) (.tmp 69), none, (some 70), [67, 69]⟩]
def m12r24 : List MOper := [⟨.load none (.tmp 13), none, (some 71), [13]⟩,
  ⟨.faddr 3 (.tmp 15), none, (some 72), [15]⟩,
  ⟨.load none (.tmp 72), none, (some 73), [72]⟩,
  ⟨.bin .add .other (.tmp 71) (.tmp 73), none, (some 74), [71, 73]⟩,
  ⟨.store 1 (.tmp 13) (.tmp 74), none, none, [13, 74]⟩]
def m12r25 : List MOper := [⟨.load none (.tmp 13), none, (some 75), [13]⟩,
  ⟨.faddr 4 (.tmp 15), none, (some 76), [15]⟩,
  ⟨.load none (.tmp 76), none, (some 77), [76]⟩,
  ⟨.bin .add .other (.tmp 75) (.tmp 77), none, (some 78), [75, 77]⟩,
  ⟨.store 1 (.tmp 13) (.tmp 78), none, none, [13, 78]⟩]
def m12b26 : MCode := (.block 2 (.seq (.dregion m12r21 m12r22 [] [4, 13, 14, 15])
  (.seq (.region m12r23 [13, 15, 70])
  (.cond (.tmp 70)
  (.region m12r24 [])
  (.region m12r25 [])))))
def m12r27 : List MOper := [⟨.load none (.tmp 1), none, (some 7), [1]⟩,
  ⟨.faddr 2 (.tmp 2), none, (some 8), [2]⟩,
  ⟨.load none (.tmp 8), none, (some 9), [8]⟩]
def m12r28 : List MOper := [⟨.mv (.tmp 7), none, (some 5), [7]⟩,
  ⟨.mv (.tmp 9), none, (some 6), [9]⟩]
def m12r29 : List MOper := [⟨.load none (.tmp 8), none, (some 9), [8]⟩]
def m12r30 : List MOper := [⟨.load none (.tmp 8), none, (some 9), [8]⟩]
def m12r31 : List MOper := [⟨.load none (.tmp 3), none, (some 10), [3]⟩,
  ⟨.mv (.lit (.int .i64 0)), none, (some 11), []⟩]
def m12r32 : List MOper := [⟨.bin .lss .other (.tmp 11) (.tmp 10), none, (some 12), [11, 10]⟩]
def m12r33 : List MOper := [⟨.mv (.tmp 0), none, (some 13), [0]⟩,
  ⟨.mv (.tmp 5), none, (some 14), [5]⟩,
  ⟨.callv (.tmp 13) [(.tmp 14)], none, (some 15), [13, 14]⟩,
  ⟨.un .not (.tmp 15), none, (some 16), [15]⟩]
def m12r34 : List MOper := [⟨.mv (.tmp 5), none, (some 17), [5]⟩,
  ⟨.mv (.tmp 6), none, (some 18), [6]⟩,
  ⟨.bin .add .other (.tmp 17) (.tmp 18), none, (some 19), [17, 18]⟩,
  ⟨.mv (.tmp 19), none, (some 5), [19]⟩]
def m12r35 : List MOper := [⟨.faddr 3 (.tmp 2), none, (some 20), [2]⟩,
  ⟨.load none (.tmp 20), none, (some 21), [20]⟩,
  ⟨.mv (.tmp 21), none, (some 6), [21]⟩]
def m12r36 : List MOper := [⟨.bin .add .other (.tmp 11) (.lit (.int .i64 1)), none, (some 22), [11]⟩,
  ⟨.mv (.tmp 22), none, (some 11), [22]⟩]
def m12l37 : MCode := (.seq (.region m12r32 [0, 2, 5, 6, 10, 11, 12])
  (.seq (.cond (.tmp 12)
  .skip
  (.exit 0))
  (.seq (.block 1 (.seq (.seq (.region m12r33 [0, 2, 5, 6, 10, 11, 16])
  (.cond (.tmp 16)
  .ret
  .skip))
  (.seq (.region m12r34 [0, 2, 5, 10, 11])
  (.region m12r35 [0, 2, 5, 6, 10, 11]))))
  (.region m12r36 [0, 2, 5, 6, 10, 11]))))
def m12i38 : MCode := (.seq (.dregion m12r27 m12r28 [m12r29, m12r30, []] [0, 2, 3, 5, 6])
  (.seq (.region m12r31 [0, 2, 5, 6, 10, 11])
  (.block 0 (.loop [0, 2, 5, 6, 10, 11] m12l37))))
def m12r39 : List MOper := [⟨.load none (.tmp 13), none, (some 79), [13]⟩,
  ⟨.mv (.tmp 79), none, (some 8), [79]⟩,
  ⟨.mv (.lit (.int .u8 0)), none, (some 9), []⟩]
def m12 : MFunc := ⟨80, [.tmp 8, .tmp 9],
  (.seq (.region m12r0 [1, 3, 4, 6])
  (.seq (.block 0 (.seq (.region m12r1 [1, 3, 4, 6, 16])
  (.cond (.tmp 16)
  (.seq (.region m12r2 [8, 9])
  .ret)
  (.seq (.region m12r3 [1, 3, 4, 6, 20])
  (.cond (.tmp 20)
  (.seq (.region m12r4 [8, 9])
  .ret)
  (.seq (.region m12r5 [1, 3, 4, 6, 25])
  (.cond (.tmp 25)
  (.seq (.region m12r6 [8, 9])
  .ret)
  .skip)))))))
  (.seq (.region m12r7 [3, 4, 6, 10])
  (.seq (.seq (.region m12r8 [3, 4, 6, 10, 34])
  (.cond (.tmp 34)
  (.seq (.region m12r9 [8, 9])
  .ret)
  .skip))
  (.seq (.region m12r10 [3, 4, 6, 11])
  (.seq (.dregion m12r11 m12r12 [m12r13, m12r14, m12r15, [], []] [4, 6, 11, 12])
  (.seq (.seq (.region m12r16 [4, 6, 11, 12, 48])
  (.cond (.tmp 48)
  (.seq (.region m12r17 [8, 9])
  .ret)
  .skip))
  (.seq (.region m12r18 [4, 6, 11, 12, 13])
  (.seq (.seq (.region m12r19 [4, 6, 11, 13, 55])
  (.block 1 (.rangef (.tmp 55) [56] (.region m12r20 [4, 6, 11, 13, 14]) m12b26 37 23 m12i38 [4, 6, 11, 13])))
  (.seq (.region m12r39 [8, 9])
  .ret))))))))))⟩
def h12 : List RH := [⟨[1, 3, 4, 6], 0, false, []⟩, ⟨[1, 3, 4, 6, 16], 0, false, []⟩, ⟨[8, 9], 0, false, []⟩, ⟨[1, 3, 4, 6, 20], 0, false, []⟩, ⟨[8, 9], 0, false, []⟩, ⟨[1, 3, 4, 6, 25], 0, false, []⟩, ⟨[8, 9], 0, false, []⟩, ⟨[3, 4, 6, 10], 0, false, []⟩, ⟨[3, 4, 6, 10, 34], 0, false, []⟩, ⟨[8, 9], 0, false, []⟩, ⟨[3, 4, 6, 11], 0, false, []⟩, ⟨[4, 6, 11, 12], 4, false, []⟩, ⟨[4, 6, 11, 12, 48], 0, false, []⟩, ⟨[8, 9], 0, false, []⟩, ⟨[4, 6, 11, 12, 13], 0, false, []⟩, ⟨[4, 6, 11, 13, 55], 0, false, []⟩, ⟨[4, 6, 11, 13], 37, false, []⟩, ⟨[4, 6, 11, 13, 14], 0, false, []⟩, ⟨[4, 13, 14, 15], 11, false, []⟩, ⟨[13, 15, 70], 0, false, []⟩, ⟨[], 0, false, []⟩, ⟨[], 0, false, []⟩, ⟨[0, 2, 3, 5, 6], 3, false, []⟩, ⟨[0, 2, 5, 6, 10, 11], 0, false, []⟩, ⟨[0, 2, 5, 6, 10, 11], 0, false, []⟩, ⟨[0, 2, 5, 6, 10, 11, 12], 0, false, []⟩, ⟨[0, 2, 5, 6, 10, 11, 16], 0, false, []⟩, ⟨[0, 2, 5, 10, 11], 0, false, []⟩, ⟨[0, 2, 5, 6, 10, 11], 0, false, []⟩, ⟨[0, 2, 5, 6, 10, 11], 0, false, []⟩, ⟨[8, 9], 0, false, []⟩]
theorem m12_ok : cmpFn Tryd.prog 12 h12 = some m12 := by kernel_rfl

/- dialtone/dialtoneref37.Cost -/
def m13r0 : List MOper := [⟨.box 2 (.tmp 0), none, (some 4), [0]⟩,
  ⟨.mv (.lit (.int .i64 0)), none, (some 8), []⟩,
  ⟨.mv (.lit (.int .u8 0)), none, (some 9), []⟩]
def m13r1 : List MOper := [⟨.load (some 2) (.tmp 4), none, (some 18), [4]⟩,
  ⟨.call 14 [(.tmp 18)], none, (some 19), [18]⟩,
  ⟨.un .not (.tmp 19), none, (some 20), [19]⟩]
def m13r2 : List MOper := [⟨.mv (.lit (.int .i64 0)), none, (some 8), []⟩,
  ⟨.mv (.lit (.int .u8 2)), none, (some 9), []⟩]
def m13r3 : List MOper := [⟨.mv (.tmp 2), none, (some 21), [2]⟩,
  ⟨.mv (.tmp 3), none, (some 22), [3]⟩,
  ⟨.call 30 [(.tmp 21), (.tmp 22)], none, (some 23), [21, 22]⟩,
  ⟨.un .not (.tmp 23), none, (some 24), [23]⟩]
def m13r4 : List MOper := [⟨.mv (.lit (.int .i64 0)), none, (some 8), []⟩,
  ⟨.mv (.lit (.int .u8 3)), none, (some 9), []⟩]
def m13r5 : List MOper := [⟨.mv (.tmp 2), none, (some 25), [2]⟩,
  ⟨.mv (.tmp 3), none, (some 26), [3]⟩,
  ⟨.call 19 [(.tmp 25), (.tmp 26)], none, (some 27), [25, 26]⟩,
  ⟨.bin .gtr .other (.tmp 27) (.lit (.int .i64 1000000)), none, (some 28), [27]⟩]
def m13r6 : List MOper := [⟨.mv (.lit (.int .i64 0)), none, (some 8), []⟩,
  ⟨.mv (.lit (.int .u8 4)), none, (some 9), []⟩]
def m13r7 : List MOper := [⟨.load (some 2) (.tmp 4), none, (some 30), [4]⟩,
  ⟨.mv (.tmp 1), none, (some 31), [1]⟩,
  ⟨.call 15 [(.tmp 30), (.tmp 31)], none, (some 32), [30, 31]⟩,
  ⟨.mv (.tmp 32), none, (some 29), [32]⟩,
  ⟨.ext 0 (.tmp 29), none, (some 33), [29]⟩,
  ⟨.ext 1 (.tmp 29), none, (some 34), [29]⟩,
  ⟨.mv (.tmp 33), none, (some 10), [33]⟩,
  ⟨.mv (.tmp 34), none, (some 11), [34]⟩]
def m13r8 : List MOper := [⟨.mv (.tmp 11), none, (some 35), [11]⟩,
  ⟨.un .not (.tmp 35), none, (some 36), [35]⟩]
def m13r9 : List MOper := [⟨.mv (.lit (.int .i64 0)), none, (some 8), []⟩,
  ⟨.mv (.lit (.int .u8 8)), none, (some 9), []⟩]
def m13r10 : List MOper := [⟨.faddr 0 (.tmp 4), none, (some 37), [4]⟩,
  ⟨.load none (.tmp 37), none, (some 38), [37]⟩,
  ⟨.mv (.tmp 10), none, (some 39), [10]⟩,
  ⟨.iaddr 5 (.tmp 38) (.tmp 39), none, (some 40), [38, 39]⟩,
  ⟨.load (some 5) (.tmp 40), none, (some 41), [40]⟩,
  ⟨.zbox [(.str []), (.int .i64 0), (.int .i64 0), (.int .i64 0), .nils], none, (some 12), []⟩,
  ⟨.store 5 (.tmp 12) (.tmp 41), none, none, [12, 41]⟩]
def m13r11 : List MOper := [⟨.load (some 5) (.tmp 12), none, (some 42), [12]⟩,
  ⟨.faddr 1 (.tmp 4), none, (some 43), [4]⟩,
  ⟨.load none (.tmp 43), none, (some 44), [43]⟩,
  ⟨.mv (.tmp 2), none, (some 45), [2]⟩]
def m13r12 : List MOper := [⟨.mv (.tmp 3), none, (some 46), [3]⟩,
  ⟨.call 19 [(.tmp 45), (.tmp 46)], none, (some 47), [45, 46]⟩,
  ⟨.call 21 [(.tmp 42), (.tmp 44), (.tmp 47)], none, (some 48), [42, 44, 47]⟩,
  ⟨.mv (.tmp 48), none, (some 13), [48]⟩]
def m13r13 : List MOper := [⟨.load (some 5) (.tmp 12), none, (some 42), [12]⟩,
  ⟨.load none (.tmp 43), none, (some 44), [43]⟩]
def m13r14 : List MOper := [⟨.load (some 5) (.tmp 12), none, (some 42), [12]⟩,
  ⟨.load none (.tmp 43), none, (some 44), [43]⟩]
def m13r15 : List MOper := [⟨.load (some 5) (.tmp 12), none, (some 42), [12]⟩,
  ⟨.load none (.tmp 43), none, (some 44), [43]⟩]
def m13r16 : List MOper := [⟨.mv (.tmp 13), none, (some 49), [13]⟩,
  ⟨.bin .eql .other (.tmp 49) (.lit (.int .i64 0)), none, (some 50), [49]⟩]
def m13r17 : List MOper := [⟨.mv (.lit (.int .i64 0)), none, (some 8), []⟩,
  ⟨.mv (.lit (.int .u8 0)), none, (some 9), []⟩]
def m13r18 : List MOper := [⟨.faddr 1 (.tmp 12), none, (some 51), [12]⟩,
  ⟨.load none (.tmp 51), none, (some 52), [51]⟩,
  ⟨.mv (.tmp 52), none, (some 14), [52]⟩]
def m13r19 : List MOper := [⟨.mv (.lit (.int .i64 0)), none, (some 15), []⟩]
def m13r20 : List MOper := [⟨.mv (.tmp 15), none, (some 53), [15]⟩,
  ⟨.mv (.tmp 13), none, (some 54), [13]⟩,
  ⟨.bin .lss .other (.tmp 53) (.tmp 54), none, (some 55), [53, 54]⟩]
def m13r21 : List MOper := [⟨.load (some 5) (.tmp 12), none, (some 59), [12]⟩,
  ⟨.mv (.tmp 2), none, (some 60), [2]⟩,
  ⟨.load (some 5) (.tmp 12), none, (some 61), [12]⟩,
  ⟨.faddr 1 (.tmp 4), none, (some 62), [4]⟩,
  ⟨.load none (.tmp 62), none, (some 63), [62]⟩,
  ⟨.mv (.tmp 15), none, (some 64), [15]⟩,
  ⟨.call 31 [(.tmp 61), (.tmp 63), (.tmp 64)], none, (some 65), [61, 63, 64]⟩,
  ⟨.bin .mul .other (.lit (.int .i64 1000)) (.tmp 65), none, (some 66), [65]⟩,
  ⟨.bin .add .other (.tmp 60) (.tmp 66), none, (some 67), [60, 66]⟩,
  ⟨.call 16 [(.tmp 59), (.tmp 67)], none, (some 68), [59, 67]⟩,
  ⟨.mv (.tmp 68), none, (some 58), [68]⟩,
  ⟨.ext 0 (.tmp 58), none, (some 69), [58]⟩,
  ⟨.ext 1 (.tmp 58), none, (some 70), [58]⟩]
def m13r22 : List MOper := [⟨.mv (.tmp 69), none, (some 16), [69]⟩,
  ⟨.mv (.tmp 70), none, (some 17), [70]⟩]
def m13r23 : List MOper := [⟨.mv (.tmp 15), none, (some 71), [15]⟩,
  ⟨.bin .eql .other (.tmp 71) (.lit (.int .i64 0)), none, (some 72), [71]⟩]
def m13r24 : List MOper := [⟨.mv (.tmp 14), none, (some 73), [14]⟩,
  ⟨.faddr 4 (.tmp 12), none, (some 74), [12]⟩,
  ⟨.load none (.tmp 74), none, (some 75), [74]⟩,
  ⟨.mv (.tmp 16), none, (some 76), [16]⟩,
  ⟨.iaddr 5 (.tmp 75) (.tmp 76), none, (some 77), [75, 76]⟩,
  ⟨.faddr 3 (.tmp 77), none, (some 78), [77]⟩,
  ⟨.load none (.tmp 78), none, (some 79), [78]⟩,
  ⟨.bin .add .other (.tmp 73) (.tmp 79), none, (some 80), [73, 79]⟩,
  ⟨.mv (.tmp 80), none, (some 14), [80]⟩]
def m13r25 : List MOper := [⟨.mv (.tmp 14), none, (some 81), [14]⟩,
  ⟨.faddr 4 (.tmp 12), none, (some 82), [12]⟩,
  ⟨.load none (.tmp 82), none, (some 83), [82]⟩,
  ⟨.mv (.tmp 16), none, (some 84), [16]⟩,
  ⟨.iaddr 5 (.tmp 83) (.tmp 84), none, (some 85), [83, 84]⟩,
  ⟨.faddr 4 (.tmp 85), none, (some 86), [85]⟩,
  ⟨.load none (.tmp 86), none, (some 87), [86]⟩,
  ⟨.bin .add .other (.tmp 81) (.tmp 87), none, (some 88), [81, 87]⟩,
  ⟨.mv (.tmp 88), none, (some 14), [88]⟩]
def m13r26 : List MOper := [⟨.mv (.tmp 15), none, (some 56), [15]⟩,
  ⟨.bin .add .other (.tmp 56) (.lit (.int .i64 1)), none, (some 57), [56]⟩,
  ⟨.mv (.tmp 57), none, (some 15), [57]⟩]
def m13l27 : MCode := (.seq (.seq (.region m13r20 [2, 4, 12, 13, 14, 15, 55])
  (.cond (.tmp 55)
  .skip
  (.exit 0)))
  (.seq (.block 1 (.seq (.dregion m13r21 m13r22 [] [2, 4, 12, 13, 14, 15, 16])
  (.seq (.region m13r23 [2, 4, 12, 13, 14, 15, 16, 72])
  (.cond (.tmp 72)
  (.region m13r24 [2, 4, 12, 13, 14, 15])
  (.region m13r25 [2, 4, 12, 13, 14, 15])))))
  (.region m13r26 [2, 4, 12, 13, 14, 15])))
def m13r28 : List MOper := [⟨.mv (.tmp 14), none, (some 89), [14]⟩,
  ⟨.mv (.tmp 89), none, (some 8), [89]⟩,
  ⟨.mv (.lit (.int .u8 0)), none, (some 9), []⟩]
def m13 : MFunc := ⟨90, [.tmp 8, .tmp 9],
  (.seq (.region m13r0 [1, 2, 3, 4])
  (.seq (.seq (.region m13r1 [1, 2, 3, 4, 20])
  (.cond (.tmp 20)
  (.seq (.region m13r2 [8, 9])
  .ret)
  .skip))
  (.seq (.seq (.region m13r3 [1, 2, 3, 4, 24])
  (.cond (.tmp 24)
  (.seq (.region m13r4 [8, 9])
  .ret)
  .skip))
  (.seq (.seq (.region m13r5 [1, 2, 3, 4, 28])
  (.cond (.tmp 28)
  (.seq (.region m13r6 [8, 9])
  .ret)
  .skip))
  (.seq (.region m13r7 [2, 3, 4, 10, 11])
  (.seq (.seq (.region m13r8 [2, 3, 4, 10, 36])
  (.cond (.tmp 36)
  (.seq (.region m13r9 [8, 9])
  .ret)
  .skip))
  (.seq (.region m13r10 [2, 3, 4, 12])
  (.seq (.dregion m13r11 m13r12 [m13r13, m13r14, m13r15, [], []] [2, 4, 12, 13])
  (.seq (.seq (.region m13r16 [2, 4, 12, 13, 50])
  (.cond (.tmp 50)
  (.seq (.region m13r17 [8, 9])
  .ret)
  .skip))
  (.seq (.region m13r18 [2, 4, 12, 13, 14])
  (.seq (.seq (.region m13r19 [2, 4, 12, 13, 14, 15])
  (.block 0 (.loop [2, 4, 12, 13, 14, 15] m13l27)))
  (.seq (.region m13r28 [8, 9])
  .ret))))))))))))⟩
def h13 : List RH := [⟨[1, 2, 3, 4], 0, false, []⟩, ⟨[1, 2, 3, 4, 20], 0, false, []⟩, ⟨[8, 9], 0, false, []⟩, ⟨[1, 2, 3, 4, 24], 0, false, []⟩, ⟨[8, 9], 0, false, []⟩, ⟨[1, 2, 3, 4, 28], 0, false, []⟩, ⟨[8, 9], 0, false, []⟩, ⟨[2, 3, 4, 10, 11], 0, false, []⟩, ⟨[2, 3, 4, 10, 36], 0, false, []⟩, ⟨[8, 9], 0, false, []⟩, ⟨[2, 3, 4, 12], 0, false, []⟩, ⟨[2, 4, 12, 13], 4, false, []⟩, ⟨[2, 4, 12, 13, 50], 0, false, []⟩, ⟨[8, 9], 0, false, []⟩, ⟨[2, 4, 12, 13, 14], 0, false, []⟩, ⟨[2, 4, 12, 13, 14, 15], 0, false, []⟩, ⟨[2, 4, 12, 13, 14, 15], 0, false, []⟩, ⟨[2, 4, 12, 13, 14, 15, 55], 0, false, []⟩, ⟨[2, 4, 12, 13, 14, 15, 16], 13, false, []⟩, ⟨[2, 4, 12, 13, 14, 15, 16, 72], 0, false, []⟩, ⟨[2, 4, 12, 13, 14, 15], 0, false, []⟩, ⟨[2, 4, 12, 13, 14, 15], 0, false, []⟩, ⟨[2, 4, 12, 13, 14, 15], 0, false, []⟩, ⟨[8, 9], 0, false, []⟩]
theorem m13_ok : cmpFn Tryd.prog 13 h13 = some m13 := by kernel_rfl

/- dialtone/dialtoneref37.Valid -/
def m14r0 : List MOper := [⟨.box 2 (.tmp 0), none, (some 1), [0]⟩,
  ⟨.mv (.lit (.bool false)), none, (some 2), []⟩]
def m14r1 : List MOper := [⟨.faddr 0 (.tmp 1), none, (some 5), [1]⟩,
  ⟨.load none (.tmp 5), none, (some 6), [5]⟩,
  ⟨.len 1 (.tmp 6), none, (some 7), [6]⟩,
  ⟨.bin .gtr .other (.tmp 7) (.lit (.int .i64 1000)), none, (some 8), [7]⟩,
  ⟨.mv (.tmp 8), none, (some 9), [8]⟩,
  ⟨.faddr 1 (.tmp 1), (some (9, false)), (some 10), [1]⟩,
  ⟨.load none (.tmp 10), (some (9, false)), (some 11), [10]⟩,
  ⟨.bin .lss .other (.tmp 11) (.lit (.int .i64 0)), (some (9, false)), (some 12), [11]⟩,
  ⟨.pick (.tmp 9) (.lit (.bool true)) (.tmp 12), none, (some 13), [9, 12]⟩,
  ⟨.mv (.tmp 13), none, (some 14), [13]⟩,
  ⟨.faddr 1 (.tmp 1), (some (14, false)), (some 15), [1]⟩,
  ⟨.load none (.tmp 15), (some (14, false)), (some 16), [15]⟩,
  ⟨.bin .gtr .other (.tmp 16) (.lit (.int .i64 3600)), (some (14, false)), (some 17), [16]⟩,
  ⟨.pick (.tmp 14) (.lit (.bool true)) (.tmp 17), none, (some 18), [14, 17]⟩]
def m14r2 : List MOper := [⟨.mv (.lit (.bool false)), none, (some 2), []⟩]
def m14r3 : List MOper := [⟨.mv (.lit (.int .i64 0)), none, (some 3), []⟩]
def m14r4 : List MOper := [⟨.mv (.tmp 3), none, (some 19), [3]⟩,
  ⟨.faddr 0 (.tmp 1), none, (some 20), [1]⟩,
  ⟨.load none (.tmp 20), none, (some 21), [20]⟩,
  ⟨.len 1 (.tmp 21), none, (some 22), [21]⟩,
  ⟨.bin .lss .other (.tmp 19) (.tmp 22), none, (some 23), [19, 22]⟩]
def m14r5 : List MOper := [⟨.faddr 0 (.tmp 1), none, (some 26), [1]⟩,
  ⟨.load none (.tmp 26), none, (some 27), [26]⟩,
  ⟨.mv (.tmp 3), none, (some 28), [3]⟩,
  ⟨.iaddr 5 (.tmp 27) (.tmp 28), none, (some 29), [27, 28]⟩,
  ⟨.load (some 5) (.tmp 29), none, (some 30), [29]⟩,
  ⟨.call 32 [(.tmp 30)], none, (some 31), [30]⟩,
  ⟨.un .not (.tmp 31), none, (some 32), [31]⟩]
def m14r6 : List MOper := [⟨.mv (.lit (.bool false)), none, (some 2), []⟩]
def m14r7 : List MOper := [⟨.mv (.lit (.int .i64 0)), none, (some 4), []⟩]
def m14r8 : List MOper := [⟨.mv (.tmp 4), none, (some 33), [4]⟩,
  ⟨.mv (.tmp 3), none, (some 34), [3]⟩,
  ⟨.bin .lss .other (.tmp 33) (.tmp 34), none, (some 35), [33, 34]⟩]
def m14r9 : List MOper := [⟨.faddr 0 (.tmp 1), none, (some 38), [1]⟩,
  ⟨.load none (.tmp 38), none, (some 39), [38]⟩,
  ⟨.mv (.tmp 4), none, (some 40), [4]⟩,
  ⟨.iaddr 5 (.tmp 39) (.tmp 40), none, (some 41), [39, 40]⟩,
  ⟨.faddr 0 (.tmp 41), none, (some 42), [41]⟩,
  ⟨.load none (.tmp 42), none, (some 43), [42]⟩,
  ⟨.faddr 0 (.tmp 1), none, (some 44), [1]⟩,
  ⟨.load none (.tmp 44), none, (some 45), [44]⟩,
  ⟨.mv (.tmp 3), none, (some 46), [3]⟩,
  ⟨.iaddr 5 (.tmp 45) (.tmp 46), none, (some 47), [45, 46]⟩,
  ⟨.faddr 0 (.tmp 47), none, (some 48), [47]⟩,
  ⟨.load none (.tmp 48), none, (some 49), [48]⟩]
def m14r10 : List MOper := [⟨.bin .eql .other (.tmp 43) (.tmp 49), none, (some 50), [43, 49]⟩]
def m14r11 : List MOper := [⟨.mv (.lit (.bool false)), none, (some 2), []⟩]
def m14r12 : List MOper := [⟨.mv (.tmp 4), none, (some 36), [4]⟩,
  ⟨.bin .add .other (.tmp 36) (.lit (.int .i64 1)), none, (some 37), [36]⟩,
  ⟨.mv (.tmp 37), none, (some 4), [37]⟩]
def m14l13 : MCode := (.seq (.seq (.region m14r8 [1, 3, 4, 35])
  (.cond (.tmp 35)
  .skip
  (.exit 2)))
  (.seq (.block 3 (.seq (.dregion m14r9 m14r10 [] [1, 3, 4, 50])
  (.cond (.tmp 50)
  (.seq (.region m14r11 [2])
  .ret)
  .skip)))
  (.region m14r12 [1, 3, 4])))
def m14r14 : List MOper := [⟨.mv (.tmp 3), none, (some 24), [3]⟩,
  ⟨.bin .add .other (.tmp 24) (.lit (.int .i64 1)), none, (some 25), [24]⟩,
  ⟨.mv (.tmp 25), none, (some 3), [25]⟩]
def m14l15 : MCode := (.seq (.seq (.region m14r4 [1, 3, 23])
  (.cond (.tmp 23)
  .skip
  (.exit 0)))
  (.seq (.block 1 (.seq (.seq (.region m14r5 [1, 3, 32])
  (.cond (.tmp 32)
  (.seq (.region m14r6 [2])
  .ret)
  .skip))
  (.seq (.region m14r7 [1, 3, 4])
  (.block 2 (.loop [1, 3, 4] m14l13)))))
  (.region m14r14 [1, 3])))
def m14r16 : List MOper := [⟨.mv (.lit (.bool true)), none, (some 2), []⟩]
def m14 : MFunc := ⟨51, [.tmp 2],
  (.seq (.region m14r0 [1])
  (.seq (.seq (.region m14r1 [1, 18])
  (.cond (.tmp 18)
  (.seq (.region m14r2 [2])
  .ret)
  .skip))
  (.seq (.seq (.region m14r3 [1, 3])
  (.block 0 (.loop [1, 3] m14l15)))
  (.seq (.region m14r16 [2])
  .ret))))⟩
def h14 : List RH := [⟨[1], 0, false, []⟩, ⟨[1, 18], 0, false, []⟩, ⟨[2], 0, false, []⟩, ⟨[1, 3], 0, false, []⟩, ⟨[1, 3], 0, false, []⟩, ⟨[1, 3, 23], 0, false, []⟩, ⟨[1, 3, 32], 0, false, []⟩, ⟨[2], 0, false, []⟩, ⟨[1, 3, 4], 0, false, []⟩, ⟨[1, 3, 4], 0, false, []⟩, ⟨[1, 3, 4, 35], 0, false, []⟩, ⟨[1, 3, 4, 50], 12, false, []⟩, ⟨[2], 0, false, []⟩, ⟨[1, 3, 4], 0, false, []⟩, ⟨[1, 3], 0, false, []⟩, ⟨[2], 0, false, []⟩]
theorem m14_ok : cmpFn Tryd.prog 14 h14 = some m14 := by kernel_rfl

/- dialtone/dialtoneref37.Find -/
def m15r0 : List MOper := [⟨.box 2 (.tmp 0), none, (some 2), [0]⟩,
  ⟨.mv (.lit (.int .i64 0)), none, (some 4), []⟩,
  ⟨.mv (.lit (.bool false)), none, (some 5), []⟩]
def m15r1 : List MOper := [⟨.load (some 2) (.tmp 2), none, (some 8), [2]⟩,
  ⟨.call 14 [(.tmp 8)], none, (some 9), [8]⟩,
  ⟨.un .not (.tmp 9), none, (some 10), [9]⟩]
def m15r2 : List MOper := [⟨.mv (.lit (.int .i64 0)), none, (some 4), []⟩,
  ⟨.mv (.lit (.bool false)), none, (some 5), []⟩]
def m15r3 : List MOper := [⟨.mv (.lit (.int .i64 20)), none, (some 6), []⟩]
def m15r4 : List MOper := [⟨.mv (.tmp 6), none, (some 11), [6]⟩,
  ⟨.bin .geq .other (.tmp 11) (.lit (.int .i64 0)), none, (some 12), [11]⟩]
def m15r5 : List MOper := [⟨.mv (.lit (.int .i64 0)), none, (some 7), []⟩]
def m15r6 : List MOper := [⟨.mv (.tmp 7), none, (some 15), [7]⟩,
  ⟨.faddr 0 (.tmp 2), none, (some 16), [2]⟩,
  ⟨.load none (.tmp 16), none, (some 17), [16]⟩,
  ⟨.len 1 (.tmp 17), none, (some 18), [17]⟩,
  ⟨.bin .lss .other (.tmp 15) (.tmp 18), none, (some 19), [15, 18]⟩]
def m15r7 : List MOper := [⟨.faddr 0 (.tmp 2), none, (some 22), [2]⟩,
  ⟨.load none (.tmp 22), none, (some 23), [22]⟩,
  ⟨.mv (.tmp 7), none, (some 24), [7]⟩,
  ⟨.iaddr 5 (.tmp 23) (.tmp 24), none, (some 25), [23, 24]⟩,
  ⟨.faddr 0 (.tmp 25), none, (some 26), [25]⟩,
  ⟨.load none (.tmp 26), none, (some 27), [26]⟩,
  ⟨.len 0 (.tmp 27), none, (some 28), [27]⟩,
  ⟨.mv (.tmp 6), none, (some 29), [6]⟩,
  ⟨.bin .eql .other (.tmp 28) (.tmp 29), none, (some 30), [28, 29]⟩,
  ⟨.mv (.tmp 30), none, (some 31), [30]⟩,
  ⟨.mv (.tmp 1), (some (31, true)), (some 32), [1]⟩,
  ⟨.faddr 0 (.tmp 2), (some (31, true)), (some 33), [2]⟩,
  ⟨.load none (.tmp 33), (some (31, true)), (some 34), [33]⟩,
  ⟨.mv (.tmp 7), (some (31, true)), (some 35), [7]⟩,
  ⟨.iaddr 5 (.tmp 34) (.tmp 35), (some (31, true)), (some 36), [34, 35]⟩,
  ⟨.faddr 0 (.tmp 36), (some (31, true)), (some 37), [36]⟩,
  ⟨.load none (.tmp 37), (some (31, true)), (some 38), [37]⟩,
  ⟨.call 33 [(.tmp 32), (.tmp 38)], (some (31, true)), (some 39), [32, 38]⟩,
  ⟨.pick (.tmp 31) (.tmp 39) (.lit (.bool false)), none, (some 40), [31, 39]⟩]
def m15r8 : List MOper := [⟨.mv (.tmp 7), none, (some 41), [7]⟩,
  ⟨.mv (.tmp 41), none, (some 4), [41]⟩,
  ⟨.mv (.lit (.bool true)), none, (some 5), []⟩]
def m15r9 : List MOper := [⟨.mv (.tmp 7), none, (some 20), [7]⟩,
  ⟨.bin .add .other (.tmp 20) (.lit (.int .i64 1)), none, (some 21), [20]⟩,
  ⟨.mv (.tmp 21), none, (some 7), [21]⟩]
def m15l10 : MCode := (.seq (.seq (.region m15r6 [1, 2, 6, 7, 19])
  (.cond (.tmp 19)
  .skip
  (.exit 2)))
  (.seq (.block 3 (.seq (.region m15r7 [1, 2, 6, 7, 40])
  (.cond (.tmp 40)
  (.seq (.region m15r8 [4, 5])
  .ret)
  .skip)))
  (.region m15r9 [1, 2, 6, 7])))
def m15r11 : List MOper := [⟨.mv (.tmp 6), none, (some 13), [6]⟩,
  ⟨.bin .sub .other (.tmp 13) (.lit (.int .i64 1)), none, (some 14), [13]⟩,
  ⟨.mv (.tmp 14), none, (some 6), [14]⟩]
def m15l12 : MCode := (.seq (.seq (.region m15r4 [1, 2, 6, 12])
  (.cond (.tmp 12)
  .skip
  (.exit 0)))
  (.seq (.block 1 (.seq (.region m15r5 [1, 2, 6, 7])
  (.block 2 (.loop [1, 2, 6, 7] m15l10))))
  (.region m15r11 [1, 2, 6])))
def m15r13 : List MOper := [⟨.mv (.lit (.int .i64 0)), none, (some 4), []⟩,
  ⟨.mv (.lit (.bool false)), none, (some 5), []⟩]
def m15 : MFunc := ⟨42, [.tmp 4, .tmp 5],
  (.seq (.region m15r0 [1, 2])
  (.seq (.seq (.region m15r1 [1, 2, 10])
  (.cond (.tmp 10)
  (.seq (.region m15r2 [4, 5])
  .ret)
  .skip))
  (.seq (.seq (.region m15r3 [1, 2, 6])
  (.block 0 (.loop [1, 2, 6] m15l12)))
  (.seq (.region m15r13 [4, 5])
  .ret))))⟩
def h15 : List RH := [⟨[1, 2], 0, false, []⟩, ⟨[1, 2, 10], 0, false, []⟩, ⟨[4, 5], 0, false, []⟩, ⟨[1, 2, 6], 0, false, []⟩, ⟨[1, 2, 6], 0, false, []⟩, ⟨[1, 2, 6, 12], 0, false, []⟩, ⟨[1, 2, 6, 7], 0, false, []⟩, ⟨[1, 2, 6, 7], 0, false, []⟩, ⟨[1, 2, 6, 7, 19], 0, false, []⟩, ⟨[1, 2, 6, 7, 40], 0, false, []⟩, ⟨[4, 5], 0, false, []⟩, ⟨[1, 2, 6, 7], 0, false, []⟩, ⟨[1, 2, 6], 0, false, []⟩, ⟨[4, 5], 0, false, []⟩]
theorem m15_ok : cmpFn Tryd.prog 15 h15 = some m15 := by kernel_rfl

/- dialtone/dialtoneref37.PriceAt -/
def m16r0 : List MOper := [⟨.box 5 (.tmp 0), none, (some 2), [0]⟩,
  ⟨.mv (.lit (.int .i64 0)), none, (some 4), []⟩,
  ⟨.mv (.lit (.bool false)), none, (some 5), []⟩]
def m16r1 : List MOper := [⟨.load (some 5) (.tmp 2), none, (some 7), [2]⟩,
  ⟨.call 32 [(.tmp 7)], none, (some 8), [7]⟩,
  ⟨.un .not (.tmp 8), none, (some 9), [8]⟩,
  ⟨.mv (.tmp 9), none, (some 10), [9]⟩,
  ⟨.mv (.tmp 1), (some (10, false)), (some 11), [1]⟩,
  ⟨.bin .lss .other (.tmp 11) (.lit (.int .i64 0)), (some (10, false)), (some 12), [11]⟩,
  ⟨.pick (.tmp 10) (.lit (.bool true)) (.tmp 12), none, (some 13), [10, 12]⟩,
  ⟨.mv (.tmp 13), none, (some 14), [13]⟩,
  ⟨.mv (.tmp 1), (some (14, false)), (some 15), [1]⟩,
  ⟨.bin .gtr .other (.tmp 15) (.lit (.int .i64 562949953421312)), (some (14, false)), (some 16), [15]⟩,
  ⟨.pick (.tmp 14) (.lit (.bool true)) (.tmp 16), none, (some 17), [14, 16]⟩]
def m16r2 : List MOper := [⟨.mv (.lit (.int .i64 0)), none, (some 4), []⟩,
  ⟨.mv (.lit (.bool false)), none, (some 5), []⟩]
def m16r3 : List MOper := [⟨.mv (.lit (.int .i64 0)), none, (some 6), []⟩]
def m16r4 : List MOper := [⟨.mv (.tmp 6), none, (some 18), [6]⟩,
  ⟨.faddr 4 (.tmp 2), none, (some 19), [2]⟩,
  ⟨.load none (.tmp 19), none, (some 20), [19]⟩,
  ⟨.len 1 (.tmp 20), none, (some 21), [20]⟩,
  ⟨.bin .lss .other (.tmp 18) (.tmp 21), none, (some 22), [18, 21]⟩]
def m16r5 : List MOper := [⟨.faddr 4 (.tmp 2), none, (some 25), [2]⟩,
  ⟨.load none (.tmp 25), none, (some 26), [25]⟩,
  ⟨.mv (.tmp 6), none, (some 27), [6]⟩,
  ⟨.iaddr 5 (.tmp 26) (.tmp 27), none, (some 28), [26, 27]⟩,
  ⟨.faddr 0 (.tmp 28), none, (some 29), [28]⟩,
  ⟨.load (some 3) (.tmp 29), none, (some 30), [29]⟩,
  ⟨.mv (.tmp 1), none, (some 31), [1]⟩,
  ⟨.call 34 [(.tmp 30), (.tmp 31)], none, (some 32), [30, 31]⟩]
def m16r6 : List MOper := [⟨.mv (.tmp 6), none, (some 33), [6]⟩,
  ⟨.mv (.tmp 33), none, (some 4), [33]⟩,
  ⟨.mv (.lit (.bool true)), none, (some 5), []⟩]
def m16r7 : List MOper := [⟨.mv (.tmp 6), none, (some 23), [6]⟩,
  ⟨.bin .add .other (.tmp 23) (.lit (.int .i64 1)), none, (some 24), [23]⟩,
  ⟨.mv (.tmp 24), none, (some 6), [24]⟩]
def m16l8 : MCode := (.seq (.seq (.region m16r4 [1, 2, 6, 22])
  (.cond (.tmp 22)
  .skip
  (.exit 0)))
  (.seq (.block 1 (.seq (.region m16r5 [1, 2, 6, 32])
  (.cond (.tmp 32)
  (.seq (.region m16r6 [4, 5])
  .ret)
  .skip)))
  (.region m16r7 [1, 2, 6])))
def m16r9 : List MOper := [⟨.mv (.lit (.int .i64 0)), none, (some 4), []⟩,
  ⟨.mv (.lit (.bool false)), none, (some 5), []⟩]
def m16 : MFunc := ⟨34, [.tmp 4, .tmp 5],
  (.seq (.region m16r0 [1, 2])
  (.seq (.seq (.region m16r1 [1, 2, 17])
  (.cond (.tmp 17)
  (.seq (.region m16r2 [4, 5])
  .ret)
  .skip))
  (.seq (.seq (.region m16r3 [1, 2, 6])
  (.block 0 (.loop [1, 2, 6] m16l8)))
  (.seq (.region m16r9 [4, 5])
  .ret))))⟩
def h16 : List RH := [⟨[1, 2], 0, false, []⟩, ⟨[1, 2, 17], 0, false, []⟩, ⟨[4, 5], 0, false, []⟩, ⟨[1, 2, 6], 0, false, []⟩, ⟨[1, 2, 6], 0, false, []⟩, ⟨[1, 2, 6, 22], 0, false, []⟩, ⟨[1, 2, 6, 32], 0, false, []⟩, ⟨[4, 5], 0, false, []⟩, ⟨[1, 2, 6], 0, false, []⟩, ⟨[4, 5], 0, false, []⟩]
theorem m16_ok : cmpFn Tryd.prog 16 h16 = some m16 := by kernel_rfl

/- dialtone/rating.PriceAt -/
def m17r0 : List MOper := [⟨.box 5 (.tmp 0), none, (some 2), [0]⟩,
  ⟨.mv (.lit (.int .i64 0)), none, (some 4), []⟩,
  ⟨.mv (.lit (.bool false)), none, (some 5), []⟩]
def m17r1 : List MOper := [⟨.load (some 5) (.tmp 2), none, (some 6), [2]⟩,
  ⟨.call 35 [(.tmp 6)], none, (some 7), [6]⟩,
  ⟨.un .not (.tmp 7), none, (some 8), [7]⟩,
  ⟨.mv (.tmp 8), none, (some 9), [8]⟩,
  ⟨.mv (.tmp 1), (some (9, false)), (some 10), [1]⟩,
  ⟨.bin .lss .other (.tmp 10) (.lit (.int .i64 0)), (some (9, false)), (some 11), [10]⟩,
  ⟨.pick (.tmp 9) (.lit (.bool true)) (.tmp 11), none, (some 12), [9, 11]⟩,
  ⟨.mv (.tmp 12), none, (some 13), [12]⟩,
  ⟨.mv (.tmp 1), (some (13, false)), (some 14), [1]⟩,
  ⟨.bin .gtr .other (.tmp 14) (.lit (.int .i64 562949953421312)), (some (13, false)), (some 15), [14]⟩,
  ⟨.pick (.tmp 13) (.lit (.bool true)) (.tmp 15), none, (some 16), [13, 15]⟩]
def m17r2 : List MOper := [⟨.mv (.lit (.int .i64 0)), none, (some 4), []⟩,
  ⟨.mv (.lit (.bool false)), none, (some 5), []⟩]
def m17r3 : List MOper := [⟨.load (some 5) (.tmp 2), none, (some 17), [2]⟩,
  ⟨.mv (.tmp 1), none, (some 18), [1]⟩,
  ⟨.call 29 [(.tmp 17), (.tmp 18)], none, (some 19), [17, 18]⟩,
  ⟨.mv (.tmp 19), none, (some 4), [19]⟩,
  ⟨.mv (.lit (.bool true)), none, (some 5), []⟩]
def m17 : MFunc := ⟨20, [.tmp 4, .tmp 5],
  (.seq (.region m17r0 [1, 2])
  (.seq (.seq (.region m17r1 [1, 2, 16])
  (.cond (.tmp 16)
  (.seq (.region m17r2 [4, 5])
  .ret)
  .skip))
  (.seq (.region m17r3 [4, 5])
  .ret)))⟩
def h17 : List RH := [⟨[1, 2], 0, false, []⟩, ⟨[1, 2, 16], 0, false, []⟩, ⟨[4, 5], 0, false, []⟩, ⟨[4, 5], 0, false, []⟩]
theorem m17_ok : cmpFn Tryd.prog 17 h17 = some m17 := by kernel_rfl

/- dialtone/rating.Seconds -/
def m18r0 : List MOper := [⟨.mv (.lit (.int .i64 0)), none, (some 4), []⟩]
def m18r1 : List MOper := [⟨.mv (.tmp 0), none, (some 5), [0]⟩,
  ⟨.mv (.tmp 1), none, (some 6), [1]⟩,
  ⟨.call 25 [(.tmp 5), (.tmp 6)], none, (some 7), [5, 6]⟩,
  ⟨.un .not (.tmp 7), none, (some 8), [7]⟩]
def m18r2 : List MOper := [⟨.mv (.lit (.int .i64 0)), none, (some 4), []⟩]
def m18r3 : List MOper := [⟨.mv (.tmp 1), none, (some 9), [1]⟩,
  ⟨.mv (.tmp 0), none, (some 10), [0]⟩,
  ⟨.bin .sub .other (.tmp 9) (.tmp 10), none, (some 11), [9, 10]⟩,
  ⟨.bin .add .other (.tmp 11) (.lit (.int .i64 999)), none, (some 12), [11]⟩,
  ⟨.bin .quo .other (.tmp 12) (.lit (.int .i64 1000)), none, (some 13), [12]⟩,
  ⟨.mv (.tmp 13), none, (some 4), [13]⟩]
def m18 : MFunc := ⟨14, [.tmp 4],
  (.seq (.region m18r0 [0, 1])
  (.seq (.seq (.region m18r1 [0, 1, 8])
  (.cond (.tmp 8)
  (.seq (.region m18r2 [4])
  .ret)
  .skip))
  (.seq (.region m18r3 [4])
  .ret)))⟩
def h18 : List RH := [⟨[0, 1], 0, false, []⟩, ⟨[0, 1, 8], 0, false, []⟩, ⟨[4], 0, false, []⟩, ⟨[4], 0, false, []⟩]
theorem m18_ok : cmpFn Tryd.prog 18 h18 = some m18 := by kernel_rfl

/- dialtone/dialtoneref37.Seconds -/
def m19r0 : List MOper := [⟨.mv (.lit (.int .i64 0)), none, (some 4), []⟩]
def m19r1 : List MOper := [⟨.mv (.tmp 0), none, (some 6), [0]⟩,
  ⟨.mv (.tmp 1), none, (some 7), [1]⟩,
  ⟨.call 30 [(.tmp 6), (.tmp 7)], none, (some 8), [6, 7]⟩,
  ⟨.un .not (.tmp 8), none, (some 9), [8]⟩]
def m19r2 : List MOper := [⟨.mv (.lit (.int .i64 0)), none, (some 4), []⟩]
def m19r3 : List MOper := [⟨.mv (.tmp 1), none, (some 10), [1]⟩,
  ⟨.mv (.tmp 0), none, (some 11), [0]⟩,
  ⟨.bin .sub .other (.tmp 10) (.tmp 11), none, (some 12), [10, 11]⟩,
  ⟨.bin .quo .other (.tmp 12) (.lit (.int .i64 1000)), none, (some 13), [12]⟩,
  ⟨.mv (.tmp 13), none, (some 5), [13]⟩]
def m19r4 : List MOper := [⟨.mv (.tmp 1), none, (some 14), [1]⟩,
  ⟨.mv (.tmp 0), none, (some 15), [0]⟩,
  ⟨.bin .sub .other (.tmp 14) (.tmp 15), none, (some 16), [14, 15]⟩,
  ⟨.bin .rem .other (.tmp 16) (.lit (.int .i64 1000)), none, (some 17), [16]⟩,
  ⟨.bin .gtr .other (.tmp 17) (.lit (.int .i64 0)), none, (some 18), [17]⟩]
def m19r5 : List MOper := [⟨.mv (.tmp 5), none, (some 19), [5]⟩,
  ⟨.bin .add .other (.tmp 19) (.lit (.int .i64 1)), none, (some 20), [19]⟩,
  ⟨.mv (.tmp 20), none, (some 5), [20]⟩]
def m19r6 : List MOper := [⟨.mv (.tmp 5), none, (some 21), [5]⟩,
  ⟨.mv (.tmp 21), none, (some 4), [21]⟩]
def m19 : MFunc := ⟨22, [.tmp 4],
  (.seq (.region m19r0 [0, 1])
  (.seq (.seq (.region m19r1 [0, 1, 9])
  (.cond (.tmp 9)
  (.seq (.region m19r2 [4])
  .ret)
  .skip))
  (.seq (.region m19r3 [0, 1, 5])
  (.seq (.seq (.region m19r4 [5, 18])
  (.cond (.tmp 18)
  (.region m19r5 [5])
  .skip))
  (.seq (.region m19r6 [4])
  .ret)))))⟩
def h19 : List RH := [⟨[0, 1], 0, false, []⟩, ⟨[0, 1, 9], 0, false, []⟩, ⟨[4], 0, false, []⟩, ⟨[0, 1, 5], 0, false, []⟩, ⟨[5, 18], 0, false, []⟩, ⟨[5], 0, false, []⟩, ⟨[4], 0, false, []⟩]
theorem m19_ok : cmpFn Tryd.prog 19 h19 = some m19 := by kernel_rfl

/- dialtone/rating.Pieces -/
def m20r0 : List MOper := [⟨.box 5 (.tmp 0), none, (some 3), [0]⟩,
  ⟨.mv (.lit (.int .i64 0)), none, (some 6), []⟩]
def m20r1 : List MOper := [⟨.load (some 5) (.tmp 3), none, (some 7), [3]⟩,
  ⟨.call 35 [(.tmp 7)], none, (some 8), [7]⟩,
  ⟨.un .not (.tmp 8), none, (some 9), [8]⟩,
  ⟨.mv (.tmp 9), none, (some 10), [9]⟩,
  ⟨.mv (.tmp 1), (some (10, false)), (some 11), [1]⟩,
  ⟨.bin .lss .other (.tmp 11) (.lit (.int .i64 0)), (some (10, false)), (some 12), [11]⟩,
  ⟨.pick (.tmp 10) (.lit (.bool true)) (.tmp 12), none, (some 13), [10, 12]⟩,
  ⟨.mv (.tmp 13), none, (some 14), [13]⟩,
  ⟨.mv (.tmp 1), (some (14, false)), (some 15), [1]⟩,
  ⟨.bin .gtr .other (.tmp 15) (.lit (.int .i64 3600)), (some (14, false)), (some 16), [15]⟩,
  ⟨.pick (.tmp 14) (.lit (.bool true)) (.tmp 16), none, (some 17), [14, 16]⟩,
  ⟨.mv (.tmp 17), none, (some 18), [17]⟩,
  ⟨.mv (.tmp 2), (some (18, false)), (some 19), [2]⟩,
  ⟨.bin .lss .other (.tmp 19) (.lit (.int .i64 0)), (some (18, false)), (some 20), [19]⟩,
  ⟨.pick (.tmp 18) (.lit (.bool true)) (.tmp 20), none, (some 21), [18, 20]⟩,
  ⟨.mv (.tmp 21), none, (some 22), [21]⟩,
  ⟨.mv (.tmp 2), (some (22, false)), (some 23), [2]⟩,
  ⟨.bin .gtr .other (.tmp 23) (.lit (.int .i64 1000000)), (some (22, false)), (some 24), [23]⟩,
  ⟨.pick (.tmp 22) (.lit (.bool true)) (.tmp 24), none, (some 25), [22, 24]⟩]
def m20r2 : List MOper := [⟨.mv (.lit (.int .i64 0)), none, (some 6), []⟩]
def m20r3 : List MOper := [⟨.load (some 5) (.tmp 3), none, (some 26), [3]⟩,
  ⟨.mv (.tmp 1), none, (some 27), [1]⟩,
  ⟨.mv (.tmp 2), none, (some 28), [2]⟩,
  ⟨.call 27 [(.tmp 26), (.tmp 27), (.tmp 28)], none, (some 29), [26, 27, 28]⟩,
  ⟨.mv (.tmp 29), none, (some 6), [29]⟩]
def m20 : MFunc := ⟨30, [.tmp 6],
  (.seq (.region m20r0 [1, 2, 3])
  (.seq (.seq (.region m20r1 [1, 2, 3, 25])
  (.cond (.tmp 25)
  (.seq (.region m20r2 [6])
  .ret)
  .skip))
  (.seq (.region m20r3 [6])
  .ret)))⟩
def h20 : List RH := [⟨[1, 2, 3], 0, false, []⟩, ⟨[1, 2, 3, 25], 0, false, []⟩, ⟨[6], 0, false, []⟩, ⟨[6], 0, false, []⟩]
theorem m20_ok : cmpFn Tryd.prog 20 h20 = some m20 := by kernel_rfl

/- dialtone/dialtoneref37.Pieces -/
def m21r0 : List MOper := [⟨.box 5 (.tmp 0), none, (some 3), [0]⟩,
  ⟨.mv (.lit (.int .i64 0)), none, (some 6), []⟩]
def m21r1 : List MOper := [⟨.load (some 5) (.tmp 3), none, (some 8), [3]⟩,
  ⟨.call 32 [(.tmp 8)], none, (some 9), [8]⟩,
  ⟨.un .not (.tmp 9), none, (some 10), [9]⟩,
  ⟨.mv (.tmp 10), none, (some 11), [10]⟩,
  ⟨.mv (.tmp 1), (some (11, false)), (some 12), [1]⟩,
  ⟨.bin .lss .other (.tmp 12) (.lit (.int .i64 0)), (some (11, false)), (some 13), [12]⟩,
  ⟨.pick (.tmp 11) (.lit (.bool true)) (.tmp 13), none, (some 14), [11, 13]⟩,
  ⟨.mv (.tmp 14), none, (some 15), [14]⟩,
  ⟨.mv (.tmp 1), (some (15, false)), (some 16), [1]⟩,
  ⟨.bin .gtr .other (.tmp 16) (.lit (.int .i64 3600)), (some (15, false)), (some 17), [16]⟩,
  ⟨.pick (.tmp 15) (.lit (.bool true)) (.tmp 17), none, (some 18), [15, 17]⟩,
  ⟨.mv (.tmp 18), none, (some 19), [18]⟩,
  ⟨.mv (.tmp 2), (some (19, false)), (some 20), [2]⟩,
  ⟨.bin .lss .other (.tmp 20) (.lit (.int .i64 0)), (some (19, false)), (some 21), [20]⟩,
  ⟨.pick (.tmp 19) (.lit (.bool true)) (.tmp 21), none, (some 22), [19, 21]⟩,
  ⟨.mv (.tmp 22), none, (some 23), [22]⟩,
  ⟨.mv (.tmp 2), (some (23, false)), (some 24), [2]⟩,
  ⟨.bin .gtr .other (.tmp 24) (.lit (.int .i64 1000000)), (some (23, false)), (some 25), [24]⟩,
  ⟨.pick (.tmp 23) (.lit (.bool true)) (.tmp 25), none, (some 26), [23, 25]⟩]
def m21r2 : List MOper := [⟨.mv (.lit (.int .i64 0)), none, (some 6), []⟩]
def m21r3 : List MOper := [⟨.mv (.lit (.int .i64 0)), none, (some 7), []⟩]
def m21r4 : List MOper := [⟨.load (some 5) (.tmp 3), none, (some 27), [3]⟩,
  ⟨.mv (.tmp 1), none, (some 28), [1]⟩,
  ⟨.mv (.tmp 7), none, (some 29), [7]⟩,
  ⟨.call 31 [(.tmp 27), (.tmp 28), (.tmp 29)], none, (some 30), [27, 28, 29]⟩,
  ⟨.mv (.tmp 2), none, (some 31), [2]⟩,
  ⟨.bin .lss .other (.tmp 30) (.tmp 31), none, (some 32), [30, 31]⟩]
def m21r5 : List MOper := [⟨.mv (.tmp 7), none, (some 33), [7]⟩,
  ⟨.bin .add .other (.tmp 33) (.lit (.int .i64 1)), none, (some 34), [33]⟩,
  ⟨.mv (.tmp 34), none, (some 7), [34]⟩]
def m21l6 : MCode := (.seq (.seq (.region m21r4 [1, 2, 3, 7, 32])
  (.cond (.tmp 32)
  .skip
  (.exit 0)))
  (.block 1 (.region m21r5 [1, 2, 3, 7])))
def m21r7 : List MOper := [⟨.mv (.tmp 7), none, (some 35), [7]⟩,
  ⟨.mv (.tmp 35), none, (some 6), [35]⟩]
def m21 : MFunc := ⟨36, [.tmp 6],
  (.seq (.region m21r0 [1, 2, 3])
  (.seq (.seq (.region m21r1 [1, 2, 3, 26])
  (.cond (.tmp 26)
  (.seq (.region m21r2 [6])
  .ret)
  .skip))
  (.seq (.region m21r3 [1, 2, 3, 7])
  (.seq (.block 0 (.loop [1, 2, 3, 7] m21l6))
  (.seq (.region m21r7 [6])
  .ret)))))⟩
def h21 : List RH := [⟨[1, 2, 3], 0, false, []⟩, ⟨[1, 2, 3, 26], 0, false, []⟩, ⟨[6], 0, false, []⟩, ⟨[1, 2, 3, 7], 0, false, []⟩, ⟨[1, 2, 3, 7], 0, false, []⟩, ⟨[1, 2, 3, 7, 32], 0, false, []⟩, ⟨[1, 2, 3, 7], 0, false, []⟩, ⟨[6], 0, false, []⟩]
theorem m21_ok : cmpFn Tryd.prog 21 h21 = some m21 := by kernel_rfl

/- dialtone/rating.Find -/
def m23r0 : List MOper := [⟨.box 2 (.tmp 0), none, (some 2), [0]⟩,
  ⟨.mv (.lit (.int .i64 0)), none, (some 4), []⟩,
  ⟨.mv (.lit (.bool false)), none, (some 5), []⟩]
def m23r1 : List MOper := [⟨.load (some 2) (.tmp 2), none, (some 7), [2]⟩,
  ⟨.call 24 [(.tmp 7)], none, (some 8), [7]⟩,
  ⟨.un .not (.tmp 8), none, (some 9), [8]⟩]
def m23r2 : List MOper := [⟨.mv (.lit (.int .i64 0)), none, (some 4), []⟩,
  ⟨.mv (.lit (.bool false)), none, (some 5), []⟩]
def m23r3 : List MOper := [⟨.load (some 2) (.tmp 2), none, (some 10), [2]⟩,
  ⟨.mv (.tmp 1), none, (some 11), [1]⟩,
  ⟨.call 26 [(.tmp 10), (.tmp 11)], none, (some 12), [10, 11]⟩,
  ⟨.mv (.tmp 12), none, (some 6), [12]⟩]
def m23r4 : List MOper := [⟨.mv (.tmp 6), none, (some 13), [6]⟩,
  ⟨.minmax true (.tmp 13) [(.lit (.int .i64 0))], none, (some 14), [13]⟩,
  ⟨.mv (.tmp 6), none, (some 15), [6]⟩,
  ⟨.bin .geq .other (.tmp 15) (.lit (.int .i64 0)), none, (some 16), [15]⟩,
  ⟨.mv (.tmp 14), none, (some 4), [14]⟩,
  ⟨.mv (.tmp 16), none, (some 5), [16]⟩]
def m23 : MFunc := ⟨17, [.tmp 4, .tmp 5],
  (.seq (.region m23r0 [1, 2])
  (.seq (.seq (.region m23r1 [1, 2, 9])
  (.cond (.tmp 9)
  (.seq (.region m23r2 [4, 5])
  .ret)
  .skip))
  (.seq (.region m23r3 [6])
  (.seq (.region m23r4 [4, 5])
  .ret))))⟩
def h23 : List RH := [⟨[1, 2], 0, false, []⟩, ⟨[1, 2, 9], 0, false, []⟩, ⟨[4, 5], 0, false, []⟩, ⟨[6], 0, false, []⟩, ⟨[4, 5], 0, false, []⟩]
theorem m23_ok : cmpFn Tryd.prog 23 h23 = some m23 := by kernel_rfl

/- dialtone/rating.Valid -/
def m24r0 : List MOper := [⟨.box 2 (.tmp 0), none, (some 1), [0]⟩,
  ⟨.mv (.lit (.bool false)), none, (some 2), []⟩]
def m24r1 : List MOper := [⟨.faddr 0 (.tmp 1), none, (some 6), [1]⟩,
  ⟨.load none (.tmp 6), none, (some 7), [6]⟩,
  ⟨.len 1 (.tmp 7), none, (some 8), [7]⟩,
  ⟨.bin .gtr .other (.tmp 8) (.lit (.int .i64 1000)), none, (some 9), [8]⟩,
  ⟨.mv (.tmp 9), none, (some 10), [9]⟩,
  ⟨.faddr 1 (.tmp 1), (some (10, false)), (some 11), [1]⟩,
  ⟨.load none (.tmp 11), (some (10, false)), (some 12), [11]⟩,
  ⟨.bin .lss .other (.tmp 12) (.lit (.int .i64 0)), (some (10, false)), (some 13), [12]⟩,
  ⟨.pick (.tmp 10) (.lit (.bool true)) (.tmp 13), none, (some 14), [10, 13]⟩,
  ⟨.mv (.tmp 14), none, (some 15), [14]⟩,
  ⟨.faddr 1 (.tmp 1), (some (15, false)), (some 16), [1]⟩,
  ⟨.load none (.tmp 16), (some (15, false)), (some 17), [16]⟩,
  ⟨.bin .gtr .other (.tmp 17) (.lit (.int .i64 3600)), (some (15, false)), (some 18), [17]⟩,
  ⟨.pick (.tmp 15) (.lit (.bool true)) (.tmp 18), none, (some 19), [15, 18]⟩]
def m24r2 : List MOper := [⟨.mv (.lit (.bool false)), none, (some 2), []⟩]
def m24r3 : List MOper := [⟨.mkmap, none, (some 20), []⟩,
  ⟨.mv (.tmp 20), none, (some 3), [20]⟩]
def m24r4 : List MOper := [⟨.faddr 0 (.tmp 1), none, (some 21), [1]⟩,
  ⟨.load none (.tmp 21), none, (some 22), [21]⟩,
  ⟨.len 1 (.tmp 22), none, (some 23), [22]⟩,
  ⟨.mv (.lit (.int .i64 0)), none, (some 24), []⟩]
def m24r5 : List MOper := [⟨.bin .lss .other (.tmp 24) (.tmp 23), none, (some 25), [24, 23]⟩]
def m24r6 : List MOper := [⟨.iaddr 5 (.tmp 22) (.tmp 24), none, (some 26), [22, 24]⟩,
  ⟨.load (some 5) (.tmp 26), none, (some 27), [26]⟩,
  ⟨.zbox [(.str []), (.int .i64 0), (.int .i64 0), (.int .i64 0), .nils], none, (some 5), []⟩,
  ⟨.store 5 (.tmp 5) (.tmp 27), none, none, [5, 27]⟩]
def m24r7 : List MOper := [⟨.load (some 5) (.tmp 5), none, (some 28), [5]⟩,
  ⟨.call 35 [(.tmp 28)], none, (some 29), [28]⟩,
  ⟨.un .not (.tmp 29), none, (some 30), [29]⟩,
  ⟨.mv (.tmp 30), none, (some 31), [30]⟩,
  ⟨.mv (.tmp 3), (some (31, false)), (some 32), [3]⟩,
  ⟨.faddr 0 (.tmp 5), (some (31, false)), (some 33), [5]⟩,
  ⟨.load none (.tmp 33), (some (31, false)), (some 34), [33]⟩,
  ⟨.look 2 (.bool false) false (.tmp 32) (.tmp 34), (some (31, false)), (some 35), [32, 34]⟩,
  ⟨.pick (.tmp 31) (.lit (.bool true)) (.tmp 35), none, (some 36), [31, 35]⟩]
def m24r8 : List MOper := [⟨.mv (.lit (.bool false)), none, (some 2), []⟩]
def m24r9 : List MOper := [⟨.mv (.tmp 3), none, (some 37), [3]⟩,
  ⟨.faddr 0 (.tmp 5), none, (some 38), [5]⟩,
  ⟨.load none (.tmp 38), none, (some 39), [38]⟩,
  ⟨.mupd 2 (.tmp 37) (.tmp 39) (.lit (.bool true)), none, none, [37, 39]⟩]
def m24r10 : List MOper := [⟨.bin .add .other (.tmp 24) (.lit (.int .i64 1)), none, (some 40), [24]⟩,
  ⟨.mv (.tmp 40), none, (some 24), [40]⟩]
def m24l11 : MCode := (.seq (.region m24r5 [3, 22, 23, 24, 25])
  (.seq (.cond (.tmp 25)
  .skip
  (.exit 0))
  (.seq (.block 1 (.seq (.region m24r6 [3, 5, 22, 23, 24])
  (.seq (.seq (.region m24r7 [3, 5, 22, 23, 24, 36])
  (.cond (.tmp 36)
  (.seq (.region m24r8 [2])
  .ret)
  .skip))
  (.region m24r9 [3, 22, 23, 24]))))
  (.region m24r10 [3, 22, 23, 24]))))
def m24r12 : List MOper := [⟨.mv (.lit (.bool true)), none, (some 2), []⟩]
def m24 : MFunc := ⟨41, [.tmp 2],
  (.seq (.region m24r0 [1])
  (.seq (.seq (.region m24r1 [1, 19])
  (.cond (.tmp 19)
  (.seq (.region m24r2 [2])
  .ret)
  .skip))
  (.seq (.region m24r3 [1, 3])
  (.seq (.seq (.region m24r4 [3, 22, 23, 24])
  (.block 0 (.loop [3, 22, 23, 24] m24l11)))
  (.seq (.region m24r12 [2])
  .ret)))))⟩
def h24 : List RH := [⟨[1], 0, false, []⟩, ⟨[1, 19], 0, false, []⟩, ⟨[2], 0, false, []⟩, ⟨[1, 3], 0, false, []⟩, ⟨[3, 22, 23, 24], 0, false, []⟩, ⟨[3, 22, 23, 24], 0, false, []⟩, ⟨[3, 22, 23, 24, 25], 0, false, []⟩, ⟨[3, 5, 22, 23, 24], 0, false, []⟩, ⟨[3, 5, 22, 23, 24, 36], 0, false, []⟩, ⟨[2], 0, false, []⟩, ⟨[3, 22, 23, 24], 0, false, []⟩, ⟨[3, 22, 23, 24], 0, false, []⟩, ⟨[2], 0, false, []⟩]
theorem m24_ok : cmpFn Tryd.prog 24 h24 = some m24 := by kernel_rfl

/- dialtone/rating.span -/
def m25r0 : List MOper := [⟨.mv (.lit (.bool false)), none, (some 4), []⟩]
def m25r1 : List MOper := [⟨.mv (.tmp 0), none, (some 5), [0]⟩,
  ⟨.bin .geq .other (.tmp 5) (.lit (.int .i64 0)), none, (some 6), [5]⟩,
  ⟨.mv (.tmp 6), none, (some 7), [6]⟩,
  ⟨.mv (.tmp 0), (some (7, true)), (some 8), [0]⟩,
  ⟨.mv (.tmp 1), (some (7, true)), (some 9), [1]⟩,
  ⟨.bin .leq .other (.tmp 8) (.tmp 9), (some (7, true)), (some 10), [8, 9]⟩,
  ⟨.pick (.tmp 7) (.tmp 10) (.lit (.bool false)), none, (some 11), [7, 10]⟩,
  ⟨.mv (.tmp 11), none, (some 12), [11]⟩,
  ⟨.mv (.tmp 1), (some (12, true)), (some 13), [1]⟩,
  ⟨.bin .leq .other (.tmp 13) (.lit (.int .i64 281474976710656)), (some (12, true)), (some 14), [13]⟩,
  ⟨.pick (.tmp 12) (.tmp 14) (.lit (.bool false)), none, (some 15), [12, 14]⟩,
  ⟨.mv (.tmp 15), none, (some 4), [15]⟩]
def m25 : MFunc := ⟨16, [.tmp 4],
  (.seq (.region m25r0 [0, 1])
  (.seq (.region m25r1 [4])
  .ret))⟩
def h25 : List RH := [⟨[0, 1], 0, false, []⟩, ⟨[4], 0, false, []⟩]
theorem m25_ok : cmpFn Tryd.prog 25 h25 = some m25 := by kernel_rfl

/- dialtone/rating.find -/
def m26r0 : List MOper := [⟨.box 2 (.tmp 0), none, (some 2), [0]⟩,
  ⟨.mv (.lit (.int .i64 0)), none, (some 4), []⟩]
def m26r1 : List MOper := [⟨.mv (.lit (.int .i64 (-1))), none, (some 5), []⟩]
def m26r2 : List MOper := [⟨.faddr 0 (.tmp 2), none, (some 8), [2]⟩,
  ⟨.load none (.tmp 8), none, (some 9), [8]⟩,
  ⟨.len 1 (.tmp 9), none, (some 10), [9]⟩,
  ⟨.mv (.lit (.int .i64 0)), none, (some 11), []⟩]
def m26r3 : List MOper := [⟨.bin .lss .other (.tmp 11) (.tmp 10), none, (some 12), [11, 10]⟩]
def m26r4 : List MOper := [⟨.mv (.tmp 11), none, (some 13), [11]⟩,
  ⟨.iaddr 5 (.tmp 9) (.tmp 11), none, (some 14), [9, 11]⟩,
  ⟨.load (some 5) (.tmp 14), none, (some 15), [14]⟩,
  ⟨.zbox [(.str []), (.int .i64 0), (.int .i64 0), (.int .i64 0), .nils], none, (some 7), []⟩,
  ⟨.mv (.tmp 13), none, (some 6), [13]⟩,
  ⟨.store 5 (.tmp 7) (.tmp 15), none, none, [7, 15]⟩]
def m26r5 : List MOper := [⟨.mv (.tmp 1), none, (some 16), [1]⟩,
  ⟨.faddr 0 (.tmp 7), none, (some 17), [7]⟩,
  ⟨.load none (.tmp 17), none, (some 18), [17]⟩,
  ⟨.call 36 [(.tmp 16), (.tmp 18)], none, (some 19), [16, 18]⟩,
  ⟨.mv (.tmp 19), none, (some 20), [19]⟩,
  ⟨.mv (.tmp 5), (some (20, true)), (some 21), [5]⟩,
  ⟨.bin .lss .other (.tmp 21) (.lit (.int .i64 0)), (some (20, true)), (some 22), [21]⟩,
  ⟨.mv (.tmp 22), (some (20, true)), (some 23), [22]⟩,
  ⟨.faddr 0 (.tmp 7), (some (23, false)), (some 24), [7]⟩,
  ⟨.load none (.tmp 24), (some (23, false)), (some 25), [24]⟩,
  ⟨.len 0 (.tmp 25), (some (23, false)), (some 26), [25]⟩,
  ⟨.faddr 0 (.tmp 2), (some (23, false)), (some 27), [2]⟩,
  ⟨.load none (.tmp 27), (some (23, false)), (some 28), [27]⟩,
  ⟨.mv (.tmp 5), (some (23, false)), (some 29), [5]⟩,
  ⟨.iaddr 5 (.tmp 28) (.tmp 29), (some (23, false)), (some 30), [28, 29]⟩,
  ⟨.faddr 0 (.tmp 30), (some (23, false)), (some 31), [30]⟩,
  ⟨.load none (.tmp 31), (some (23, false)), (some 32), [31]⟩,
  ⟨.len 0 (.tmp 32), (some (23, false)), (some 33), [32]⟩]
def m26r6 : List MOper := [⟨.bin .gtr .other (.tmp 26) (.tmp 33), (some (23, false)), (some 34), [26, 33]⟩,
  ⟨.pick (.tmp 23) (.lit (.bool true)) (.tmp 34), (some (20, true)), (some 35), [23, 34]⟩,
  ⟨.pick (.tmp 20) (.tmp 35) (.lit (.bool false)), none, (some 36), [20, 35]⟩]
def m26r7 : List MOper := [⟨.mv (.tmp 6), none, (some 37), [6]⟩,
  ⟨.mv (.tmp 37), none, (some 5), [37]⟩]
def m26r8 : List MOper := [⟨.bin .add .other (.tmp 11) (.lit (.int .i64 1)), none, (some 38), [11]⟩,
  ⟨.mv (.tmp 38), none, (some 11), [38]⟩]
def m26l9 : MCode := (.seq (.region m26r3 [1, 2, 5, 9, 10, 11, 12])
  (.seq (.cond (.tmp 12)
  .skip
  (.exit 0))
  (.seq (.block 1 (.seq (.region m26r4 [1, 2, 5, 6, 7, 9, 10, 11])
  (.seq (.dregion m26r5 m26r6 [] [1, 2, 5, 6, 9, 10, 11, 36])
  (.cond (.tmp 36)
  (.region m26r7 [1, 2, 5, 9, 10, 11])
  .skip))))
  (.region m26r8 [1, 2, 5, 9, 10, 11]))))
def m26r10 : List MOper := [⟨.mv (.tmp 5), none, (some 39), [5]⟩,
  ⟨.mv (.tmp 39), none, (some 4), [39]⟩]
def m26 : MFunc := ⟨40, [.tmp 4],
  (.seq (.region m26r0 [1, 2])
  (.seq (.region m26r1 [1, 2, 5])
  (.seq (.seq (.region m26r2 [1, 2, 5, 9, 10, 11])
  (.block 0 (.loop [1, 2, 5, 9, 10, 11] m26l9)))
  (.seq (.region m26r10 [4])
  .ret))))⟩
def h26 : List RH := [⟨[1, 2], 0, false, []⟩, ⟨[1, 2, 5], 0, false, []⟩, ⟨[1, 2, 5, 9, 10, 11], 0, false, []⟩, ⟨[1, 2, 5, 9, 10, 11], 0, false, []⟩, ⟨[1, 2, 5, 9, 10, 11, 12], 0, false, []⟩, ⟨[1, 2, 5, 6, 7, 9, 10, 11], 0, false, []⟩, ⟨[1, 2, 5, 6, 9, 10, 11, 36], 18, false, []⟩, ⟨[1, 2, 5, 9, 10, 11], 0, false, []⟩, ⟨[1, 2, 5, 9, 10, 11], 0, false, []⟩, ⟨[4], 0, false, []⟩]
theorem m26_ok : cmpFn Tryd.prog 26 h26 = some m26 := by kernel_rfl

/- dialtone/rating.pieces -/
def m27r0 : List MOper := [⟨.box 5 (.tmp 0), none, (some 3), [0]⟩,
  ⟨.mv (.lit (.int .i64 0)), none, (some 6), []⟩]
def m27r1 : List MOper := [⟨.mv (.tmp 2), none, (some 8), [2]⟩,
  ⟨.mv (.tmp 1), none, (some 9), [1]⟩,
  ⟨.bin .sub .other (.tmp 8) (.tmp 9), none, (some 10), [8, 9]⟩,
  ⟨.mv (.tmp 10), none, (some 7), [10]⟩]
def m27r2 : List MOper := [⟨.mv (.tmp 7), none, (some 24), [7]⟩,
  ⟨.bin .leq .other (.tmp 24) (.lit (.int .i64 0)), none, (some 25), [24]⟩,
  ⟨.mv (.tmp 25), none, (some 23), [25]⟩]
def m27r3 : List MOper := [⟨.mv (.lit (.int .i64 0)), none, (some 6), []⟩]
def m27r4 : List MOper := [⟨.mv (.tmp 7), none, (some 27), [7]⟩,
  ⟨.faddr 2 (.tmp 3), none, (some 28), [3]⟩,
  ⟨.load none (.tmp 28), none, (some 29), [28]⟩,
  ⟨.bin .leq .other (.tmp 27) (.tmp 29), none, (some 30), [27, 29]⟩,
  ⟨.mv (.tmp 30), none, (some 26), [30]⟩]
def m27r5 : List MOper := [⟨.mv (.lit (.int .i64 1)), none, (some 6), []⟩]
def m27r6 : List MOper := [⟨.mv (.tmp 7), none, (some 11), [7]⟩,
  ⟨.faddr 2 (.tmp 3), none, (some 12), [3]⟩,
  ⟨.load none (.tmp 12), none, (some 13), [12]⟩,
  ⟨.bin .sub .other (.tmp 11) (.tmp 13), none, (some 14), [11, 13]⟩,
  ⟨.faddr 3 (.tmp 3), none, (some 15), [3]⟩,
  ⟨.load none (.tmp 15), none, (some 16), [15]⟩,
  ⟨.bin .add .other (.tmp 14) (.tmp 16), none, (some 17), [14, 16]⟩,
  ⟨.bin .sub .other (.tmp 17) (.lit (.int .i64 1)), none, (some 18), [17]⟩,
  ⟨.faddr 3 (.tmp 3), none, (some 19), [3]⟩,
  ⟨.load none (.tmp 19), none, (some 20), [19]⟩,
  ⟨.bin .quo .other (.tmp 18) (.tmp 20), none, (some 21), [18, 20]⟩,
  ⟨.bin .add .other (.lit (.int .i64 1)) (.tmp 21), none, (some 22), [21]⟩,
  ⟨.mv (.tmp 22), none, (some 6), [22]⟩]
def m27 : MFunc := ⟨31, [.tmp 6],
  (.seq (.region m27r0 [1, 2, 3])
  (.seq (.region m27r1 [3, 7])
  (.block 0 (.seq (.region m27r2 [3, 7, 23])
  (.cond (.tmp 23)
  (.seq (.region m27r3 [6])
  .ret)
  (.seq (.region m27r4 [3, 7, 26])
  (.cond (.tmp 26)
  (.seq (.region m27r5 [6])
  .ret)
  (.seq (.region m27r6 [6])
  .ret))))))))⟩
def h27 : List RH := [⟨[1, 2, 3], 0, false, []⟩, ⟨[3, 7], 0, false, []⟩, ⟨[3, 7, 23], 0, false, []⟩, ⟨[6], 0, false, []⟩, ⟨[3, 7, 26], 0, false, []⟩, ⟨[6], 0, false, []⟩, ⟨[6], 0, false, []⟩]
theorem m27_ok : cmpFn Tryd.prog 27 h27 = some m27 := by kernel_rfl

/- dialtone/rating.begins -/
def m28r0 : List MOper := [⟨.box 5 (.tmp 0), none, (some 3), [0]⟩,
  ⟨.box 1 (.tmp 1), none, (some 4), [1]⟩,
  ⟨.box 1 (.tmp 2), none, (some 5), [2]⟩,
  ⟨.mv (.lit .nilf), none, (some 6), []⟩]
def m28r1 : List MOper := [⟨.mkfn 37 [] [(.tmp 4), (.tmp 3), (.tmp 5)], none, (some 7), [4, 3, 5]⟩,
  ⟨.mv (.tmp 7), none, (some 6), [7]⟩]
def m28 : MFunc := ⟨8, [.tmp 6],
  (.seq (.region m28r0 [3, 4, 5])
  (.seq (.region m28r1 [6])
  .ret))⟩
def h28 : List RH := [⟨[3, 4, 5], 0, false, []⟩, ⟨[6], 0, false, []⟩]
theorem m28_ok : cmpFn Tryd.prog 28 h28 = some m28 := by kernel_rfl

/- dialtone/rating.priceAt -/
def m29r0 : List MOper := [⟨.box 5 (.tmp 0), none, (some 2), [0]⟩,
  ⟨.box 1 (.tmp 1), none, (some 3), [1]⟩,
  ⟨.mv (.lit (.int .i64 0)), none, (some 4), []⟩]
def m29r1 : List MOper := [⟨.faddr 4 (.tmp 2), none, (some 5), [2]⟩,
  ⟨.load none (.tmp 5), none, (some 6), [5]⟩,
  ⟨.mkfn 39 [] [(.tmp 3)], none, (some 7), [3]⟩,
  ⟨.call 38 [(.tmp 6), (.tmp 7)], none, (some 8), [6, 7]⟩,
  ⟨.mv (.tmp 8), none, (some 4), [8]⟩]
def m29 : MFunc := ⟨9, [.tmp 4],
  (.seq (.region m29r0 [2, 3])
  (.seq (.region m29r1 [4])
  .ret))⟩
def h29 : List RH := [⟨[2, 3], 0, false, []⟩, ⟨[4], 0, false, []⟩]
theorem m29_ok : cmpFn Tryd.prog 29 h29 = some m29 := by kernel_rfl

/- dialtone/dialtoneref37.Span -/
def m30r0 : List MOper := [⟨.mv (.lit (.bool false)), none, (some 4), []⟩]
def m30r1 : List MOper := [⟨.mv (.tmp 0), none, (some 5), [0]⟩,
  ⟨.bin .geq .other (.tmp 5) (.lit (.int .i64 0)), none, (some 6), [5]⟩,
  ⟨.mv (.tmp 6), none, (some 7), [6]⟩,
  ⟨.mv (.tmp 1), (some (7, true)), (some 8), [1]⟩,
  ⟨.bin .geq .other (.tmp 8) (.lit (.int .i64 0)), (some (7, true)), (some 9), [8]⟩,
  ⟨.pick (.tmp 7) (.tmp 9) (.lit (.bool false)), none, (some 10), [7, 9]⟩,
  ⟨.mv (.tmp 10), none, (some 11), [10]⟩,
  ⟨.mv (.tmp 0), (some (11, true)), (some 12), [0]⟩,
  ⟨.bin .leq .other (.tmp 12) (.lit (.int .i64 281474976710656)), (some (11, true)), (some 13), [12]⟩,
  ⟨.pick (.tmp 11) (.tmp 13) (.lit (.bool false)), none, (some 14), [11, 13]⟩,
  ⟨.mv (.tmp 14), none, (some 15), [14]⟩,
  ⟨.mv (.tmp 1), (some (15, true)), (some 16), [1]⟩,
  ⟨.bin .leq .other (.tmp 16) (.lit (.int .i64 281474976710656)), (some (15, true)), (some 17), [16]⟩,
  ⟨.pick (.tmp 15) (.tmp 17) (.lit (.bool false)), none, (some 18), [15, 17]⟩,
  ⟨.mv (.tmp 18), none, (some 19), [18]⟩,
  ⟨.mv (.tmp 0), (some (19, true)), (some 20), [0]⟩,
  ⟨.mv (.tmp 1), (some (19, true)), (some 21), [1]⟩,
  ⟨.bin .leq .other (.tmp 20) (.tmp 21), (some (19, true)), (some 22), [20, 21]⟩,
  ⟨.pick (.tmp 19) (.tmp 22) (.lit (.bool false)), none, (some 23), [19, 22]⟩,
  ⟨.mv (.tmp 23), none, (some 4), [23]⟩]
def m30 : MFunc := ⟨24, [.tmp 4],
  (.seq (.region m30r0 [0, 1])
  (.seq (.region m30r1 [4])
  .ret))⟩
def h30 : List RH := [⟨[0, 1], 0, false, []⟩, ⟨[4], 0, false, []⟩]
theorem m30_ok : cmpFn Tryd.prog 30 h30 = some m30 := by kernel_rfl

/- dialtone/dialtoneref37.Begin -/
def m31r0 : List MOper := [⟨.box 5 (.tmp 0), none, (some 3), [0]⟩,
  ⟨.mv (.lit (.int .i64 0)), none, (some 6), []⟩]
def m31r1 : List MOper := [⟨.mv (.tmp 2), none, (some 7), [2]⟩,
  ⟨.bin .eql .other (.tmp 7) (.lit (.int .i64 0)), none, (some 8), [7]⟩]
def m31r2 : List MOper := [⟨.mv (.tmp 1), none, (some 9), [1]⟩,
  ⟨.mv (.tmp 9), none, (some 6), [9]⟩]
def m31r3 : List MOper := [⟨.mv (.tmp 1), none, (some 10), [1]⟩,
  ⟨.faddr 2 (.tmp 3), none, (some 11), [3]⟩,
  ⟨.load none (.tmp 11), none, (some 12), [11]⟩,
  ⟨.bin .add .other (.tmp 10) (.tmp 12), none, (some 13), [10, 12]⟩,
  ⟨.mv (.tmp 2), none, (some 14), [2]⟩,
  ⟨.bin .sub .other (.tmp 14) (.lit (.int .i64 1)), none, (some 15), [14]⟩,
  ⟨.faddr 3 (.tmp 3), none, (some 16), [3]⟩,
  ⟨.load none (.tmp 16), none, (some 17), [16]⟩,
  ⟨.bin .mul .other (.tmp 15) (.tmp 17), none, (some 18), [15, 17]⟩,
  ⟨.bin .add .other (.tmp 13) (.tmp 18), none, (some 19), [13, 18]⟩,
  ⟨.mv (.tmp 19), none, (some 6), [19]⟩]
def m31 : MFunc := ⟨20, [.tmp 6],
  (.seq (.region m31r0 [1, 2, 3])
  (.seq (.seq (.region m31r1 [1, 2, 3, 8])
  (.cond (.tmp 8)
  (.seq (.region m31r2 [6])
  .ret)
  .skip))
  (.seq (.region m31r3 [6])
  .ret)))⟩
def h31 : List RH := [⟨[1, 2, 3], 0, false, []⟩, ⟨[1, 2, 3, 8], 0, false, []⟩, ⟨[6], 0, false, []⟩, ⟨[6], 0, false, []⟩]
theorem m31_ok : cmpFn Tryd.prog 31 h31 = some m31 := by kernel_rfl

/- dialtone/dialtoneref37.Rate -/
def m32r0 : List MOper := [⟨.box 5 (.tmp 0), none, (some 1), [0]⟩,
  ⟨.mv (.lit (.bool false)), none, (some 2), []⟩]
def m32r1 : List MOper := [⟨.faddr 0 (.tmp 1), none, (some 7), [1]⟩,
  ⟨.load none (.tmp 7), none, (some 8), [7]⟩,
  ⟨.len 0 (.tmp 8), none, (some 9), [8]⟩,
  ⟨.bin .gtr .other (.tmp 9) (.lit (.int .i64 20)), none, (some 10), [9]⟩,
  ⟨.mv (.tmp 10), none, (some 11), [10]⟩,
  ⟨.faddr 1 (.tmp 1), (some (11, false)), (some 12), [1]⟩,
  ⟨.load none (.tmp 12), (some (11, false)), (some 13), [12]⟩,
  ⟨.call 41 [(.tmp 13)], (some (11, false)), (some 14), [13]⟩,
  ⟨.un .not (.tmp 14), (some (11, false)), (some 15), [14]⟩,
  ⟨.pick (.tmp 11) (.lit (.bool true)) (.tmp 15), none, (some 16), [11, 15]⟩,
  ⟨.mv (.tmp 16), none, (some 17), [16]⟩,
  ⟨.faddr 2 (.tmp 1), (some (17, false)), (some 18), [1]⟩,
  ⟨.load none (.tmp 18), (some (17, false)), (some 19), [18]⟩,
  ⟨.bin .lss .other (.tmp 19) (.lit (.int .i64 1)), (some (17, false)), (some 20), [19]⟩,
  ⟨.pick (.tmp 17) (.lit (.bool true)) (.tmp 20), none, (some 21), [17, 20]⟩,
  ⟨.mv (.tmp 21), none, (some 22), [21]⟩,
  ⟨.faddr 2 (.tmp 1), (some (22, false)), (some 23), [1]⟩,
  ⟨.load none (.tmp 23), (some (22, false)), (some 24), [23]⟩,
  ⟨.bin .gtr .other (.tmp 24) (.lit (.int .i64 3600)), (some (22, false)), (some 25), [24]⟩,
  ⟨.pick (.tmp 22) (.lit (.bool true)) (.tmp 25), none, (some 26), [22, 25]⟩,
  ⟨.mv (.tmp 26), none, (some 27), [26]⟩,
  ⟨.faddr 3 (.tmp 1), (some (27, false)), (some 28), [1]⟩,
  ⟨.load none (.tmp 28), (some (27, false)), (some 29), [28]⟩,
  ⟨.bin .lss .other (.tmp 29) (.lit (.int .i64 1)), (some (27, false)), (some 30), [29]⟩,
  ⟨.pick (.tmp 27) (.lit (.bool true)) (.tmp 30), none, (some 31), [27, 30]⟩,
  ⟨.mv (.tmp 31), none, (some 32), [31]⟩,
  ⟨.faddr 3 (.tmp 1), (some (32, false)), (some 33), [1]⟩,
  ⟨.load none (.tmp 33), (some (32, false)), (some 34), [33]⟩,
  ⟨.bin .gtr .other (.tmp 34) (.lit (.int .i64 3600)), (some (32, false)), (some 35), [34]⟩,
  ⟨.pick (.tmp 32) (.lit (.bool true)) (.tmp 35), none, (some 36), [32, 35]⟩]
def m32r2 : List MOper := [⟨.mv (.lit (.bool false)), none, (some 2), []⟩]
def m32r3 : List MOper := [⟨.mv (.lit (.int .i64 0)), none, (some 3), []⟩]
def m32r4 : List MOper := [⟨.mv (.tmp 3), none, (some 37), [3]⟩,
  ⟨.faddr 0 (.tmp 1), none, (some 38), [1]⟩,
  ⟨.load none (.tmp 38), none, (some 39), [38]⟩,
  ⟨.len 0 (.tmp 39), none, (some 40), [39]⟩,
  ⟨.bin .lss .other (.tmp 37) (.tmp 40), none, (some 41), [37, 40]⟩]
def m32r5 : List MOper := [⟨.faddr 0 (.tmp 1), none, (some 44), [1]⟩,
  ⟨.load none (.tmp 44), none, (some 45), [44]⟩,
  ⟨.mv (.tmp 3), none, (some 46), [3]⟩,
  ⟨.sidx (.tmp 45) (.tmp 46), none, (some 47), [45, 46]⟩,
  ⟨.bin .lss .other (.tmp 47) (.lit (.int .u8 48)), none, (some 48), [47]⟩,
  ⟨.mv (.tmp 48), none, (some 49), [48]⟩,
  ⟨.faddr 0 (.tmp 1), (some (49, false)), (some 50), [1]⟩,
  ⟨.load none (.tmp 50), (some (49, false)), (some 51), [50]⟩,
  ⟨.mv (.tmp 3), (some (49, false)), (some 52), [3]⟩,
  ⟨.sidx (.tmp 51) (.tmp 52), (some (49, false)), (some 53), [51, 52]⟩,
  ⟨.bin .gtr .other (.tmp 53) (.lit (.int .u8 57)), (some (49, false)), (some 54), [53]⟩,
  ⟨.pick (.tmp 49) (.lit (.bool true)) (.tmp 54), none, (some 55), [49, 54]⟩]
def m32r6 : List MOper := [⟨.mv (.lit (.bool false)), none, (some 2), []⟩]
def m32r7 : List MOper := [⟨.mv (.tmp 3), none, (some 42), [3]⟩,
  ⟨.bin .add .other (.tmp 42) (.lit (.int .i64 1)), none, (some 43), [42]⟩,
  ⟨.mv (.tmp 43), none, (some 3), [43]⟩]
def m32l8 : MCode := (.seq (.seq (.region m32r4 [1, 3, 41])
  (.cond (.tmp 41)
  .skip
  (.exit 0)))
  (.seq (.block 1 (.seq (.region m32r5 [1, 3, 55])
  (.cond (.tmp 55)
  (.seq (.region m32r6 [2])
  .ret)
  .skip)))
  (.region m32r7 [1, 3])))
def m32r9 : List MOper := [⟨.faddr 4 (.tmp 1), none, (some 56), [1]⟩,
  ⟨.load none (.tmp 56), none, (some 57), [56]⟩,
  ⟨.len 1 (.tmp 57), none, (some 58), [57]⟩,
  ⟨.bin .lss .other (.tmp 58) (.lit (.int .i64 1)), none, (some 59), [58]⟩,
  ⟨.mv (.tmp 59), none, (some 60), [59]⟩,
  ⟨.faddr 4 (.tmp 1), (some (60, false)), (some 61), [1]⟩,
  ⟨.load none (.tmp 61), (some (60, false)), (some 62), [61]⟩,
  ⟨.len 1 (.tmp 62), (some (60, false)), (some 63), [62]⟩,
  ⟨.bin .gtr .other (.tmp 63) (.lit (.int .i64 20)), (some (60, false)), (some 64), [63]⟩,
  ⟨.pick (.tmp 60) (.lit (.bool true)) (.tmp 64), none, (some 65), [60, 64]⟩]
def m32r10 : List MOper := [⟨.mv (.lit (.bool false)), none, (some 2), []⟩]
def m32r11 : List MOper := [⟨.mv (.lit (.int .i64 0)), none, (some 4), []⟩]
def m32r12 : List MOper := [⟨.mv (.tmp 4), none, (some 66), [4]⟩,
  ⟨.faddr 4 (.tmp 1), none, (some 67), [1]⟩,
  ⟨.load none (.tmp 67), none, (some 68), [67]⟩,
  ⟨.len 1 (.tmp 68), none, (some 69), [68]⟩,
  ⟨.bin .lss .other (.tmp 66) (.tmp 69), none, (some 70), [66, 69]⟩]
def m32r13 : List MOper := [⟨.faddr 4 (.tmp 1), none, (some 73), [1]⟩,
  ⟨.load none (.tmp 73), none, (some 74), [73]⟩,
  ⟨.mv (.tmp 4), none, (some 75), [4]⟩,
  ⟨.iaddr 5 (.tmp 74) (.tmp 75), none, (some 76), [74, 75]⟩,
  ⟨.load (some 5) (.tmp 76), none, (some 77), [76]⟩,
  ⟨.zbox [(.int .u8 0), (.int .i64 0), (.int .i64 0), (.int .i64 0), (.int .i64 0)], none, (some 5), []⟩,
  ⟨.store 5 (.tmp 5) (.tmp 77), none, none, [5, 77]⟩]
def m32r14 : List MOper := [⟨.faddr 0 (.tmp 5), none, (some 78), [5]⟩,
  ⟨.load (some 3) (.tmp 78), none, (some 79), [78]⟩,
  ⟨.call 42 [(.tmp 79)], none, (some 80), [79]⟩,
  ⟨.un .not (.tmp 80), none, (some 81), [80]⟩,
  ⟨.mv (.tmp 81), none, (some 82), [81]⟩,
  ⟨.faddr 3 (.tmp 5), (some (82, false)), (some 83), [5]⟩,
  ⟨.load none (.tmp 83), (some (82, false)), (some 84), [83]⟩,
  ⟨.call 41 [(.tmp 84)], (some (82, false)), (some 85), [84]⟩,
  ⟨.un .not (.tmp 85), (some (82, false)), (some 86), [85]⟩,
  ⟨.pick (.tmp 82) (.lit (.bool true)) (.tmp 86), none, (some 87), [82, 86]⟩,
  ⟨.mv (.tmp 87), none, (some 88), [87]⟩,
  ⟨.faddr 4 (.tmp 5), (some (88, false)), (some 89), [5]⟩,
  ⟨.load none (.tmp 89), (some (88, false)), (some 90), [89]⟩,
  ⟨.call 41 [(.tmp 90)], (some (88, false)), (some 91), [90]⟩,
  ⟨.un .not (.tmp 91), (some (88, false)), (some 92), [91]⟩,
  ⟨.pick (.tmp 88) (.lit (.bool true)) (.tmp 92), none, (some 93), [88, 92]⟩]
def m32r15 : List MOper := [⟨.mv (.lit (.bool false)), none, (some 2), []⟩]
def m32r16 : List MOper := [⟨.mv (.tmp 4), none, (some 71), [4]⟩,
  ⟨.bin .add .other (.tmp 71) (.lit (.int .i64 1)), none, (some 72), [71]⟩,
  ⟨.mv (.tmp 72), none, (some 4), [72]⟩]
def m32l17 : MCode := (.seq (.seq (.region m32r12 [1, 4, 70])
  (.cond (.tmp 70)
  .skip
  (.exit 2)))
  (.seq (.block 3 (.seq (.region m32r13 [1, 4, 5])
  (.seq (.region m32r14 [1, 4, 93])
  (.cond (.tmp 93)
  (.seq (.region m32r15 [2])
  .ret)
  .skip))))
  (.region m32r16 [1, 4])))
def m32r18 : List MOper := [⟨.faddr 4 (.tmp 1), none, (some 94), [1]⟩,
  ⟨.load none (.tmp 94), none, (some 95), [94]⟩,
  ⟨.faddr 4 (.tmp 1), none, (some 96), [1]⟩,
  ⟨.load none (.tmp 96), none, (some 97), [96]⟩,
  ⟨.len 1 (.tmp 97), none, (some 98), [97]⟩,
  ⟨.bin .sub .other (.tmp 98) (.lit (.int .i64 1)), none, (some 99), [98]⟩,
  ⟨.iaddr 5 (.tmp 95) (.tmp 99), none, (some 100), [95, 99]⟩,
  ⟨.faddr 0 (.tmp 100), none, (some 101), [100]⟩,
  ⟨.load (some 3) (.tmp 101), none, (some 102), [101]⟩,
  ⟨.zbox [(.int .u8 0), (.int .i64 0), (.int .i64 0)], none, (some 6), []⟩,
  ⟨.store 3 (.tmp 6) (.tmp 102), none, none, [6, 102]⟩]
def m32r19 : List MOper := [⟨.faddr 0 (.tmp 6), none, (some 103), [6]⟩,
  ⟨.load none (.tmp 103), none, (some 104), [103]⟩,
  ⟨.bin .eql .other (.tmp 104) (.lit (.int .u8 127)), none, (some 105), [104]⟩,
  ⟨.mv (.tmp 105), none, (some 106), [105]⟩,
  ⟨.faddr 1 (.tmp 6), (some (106, true)), (some 107), [6]⟩,
  ⟨.load none (.tmp 107), (some (106, true)), (some 108), [107]⟩,
  ⟨.bin .eql .other (.tmp 108) (.lit (.int .i64 0)), (some (106, true)), (some 109), [108]⟩,
  ⟨.pick (.tmp 106) (.tmp 109) (.lit (.bool false)), none, (some 110), [106, 109]⟩,
  ⟨.mv (.tmp 110), none, (some 111), [110]⟩,
  ⟨.faddr 2 (.tmp 6), (some (111, true)), (some 112), [6]⟩,
  ⟨.load none (.tmp 112), (some (111, true)), (some 113), [112]⟩,
  ⟨.bin .eql .other (.tmp 113) (.lit (.int .i64 1440)), (some (111, true)), (some 114), [113]⟩,
  ⟨.pick (.tmp 111) (.tmp 114) (.lit (.bool false)), none, (some 115), [111, 114]⟩,
  ⟨.mv (.tmp 115), none, (some 2), [115]⟩]
def m32 : MFunc := ⟨116, [.tmp 2],
  (.seq (.region m32r0 [1])
  (.seq (.seq (.region m32r1 [1, 36])
  (.cond (.tmp 36)
  (.seq (.region m32r2 [2])
  .ret)
  .skip))
  (.seq (.seq (.region m32r3 [1, 3])
  (.block 0 (.loop [1, 3] m32l8)))
  (.seq (.seq (.region m32r9 [1, 65])
  (.cond (.tmp 65)
  (.seq (.region m32r10 [2])
  .ret)
  .skip))
  (.seq (.seq (.region m32r11 [1, 4])
  (.block 2 (.loop [1, 4] m32l17)))
  (.seq (.region m32r18 [6])
  (.seq (.region m32r19 [2])
  .ret)))))))⟩
def h32 : List RH := [⟨[1], 0, false, []⟩, ⟨[1, 36], 0, false, []⟩, ⟨[2], 0, false, []⟩, ⟨[1, 3], 0, false, []⟩, ⟨[1, 3], 0, false, []⟩, ⟨[1, 3, 41], 0, false, []⟩, ⟨[1, 3, 55], 0, false, []⟩, ⟨[2], 0, false, []⟩, ⟨[1, 3], 0, false, []⟩, ⟨[1, 65], 0, false, []⟩, ⟨[2], 0, false, []⟩, ⟨[1, 4], 0, false, []⟩, ⟨[1, 4], 0, false, []⟩, ⟨[1, 4, 70], 0, false, []⟩, ⟨[1, 4, 5], 0, false, []⟩, ⟨[1, 4, 93], 0, false, []⟩, ⟨[2], 0, false, []⟩, ⟨[1, 4], 0, false, []⟩, ⟨[6], 0, false, []⟩, ⟨[2], 0, false, []⟩]
theorem m32_ok : cmpFn Tryd.prog 32 h32 = some m32 := by kernel_rfl

/- dialtone/dialtoneref37.Begins -/
def m33r0 : List MOper := [⟨.mv (.lit (.bool false)), none, (some 4), []⟩]
def m33r1 : List MOper := [⟨.mv (.tmp 0), none, (some 5), [0]⟩,
  ⟨.len 0 (.tmp 5), none, (some 6), [5]⟩,
  ⟨.mv (.tmp 1), none, (some 7), [1]⟩,
  ⟨.len 0 (.tmp 7), none, (some 8), [7]⟩,
  ⟨.bin .geq .other (.tmp 6) (.tmp 8), none, (some 9), [6, 8]⟩,
  ⟨.mv (.tmp 9), none, (some 10), [9]⟩,
  ⟨.mv (.tmp 0), (some (10, true)), (some 11), [0]⟩,
  ⟨.mv (.tmp 1), (some (10, true)), (some 12), [1]⟩,
  ⟨.len 0 (.tmp 12), (some (10, true)), (some 13), [12]⟩,
  ⟨.sslc (.tmp 11) none (some (.tmp 13)), (some (10, true)), (some 14), [11, 13]⟩,
  ⟨.mv (.tmp 1), (some (10, true)), (some 15), [1]⟩,
  ⟨.bin .eql .other (.tmp 14) (.tmp 15), (some (10, true)), (some 16), [14, 15]⟩,
  ⟨.pick (.tmp 10) (.tmp 16) (.lit (.bool false)), none, (some 17), [10, 16]⟩,
  ⟨.mv (.tmp 17), none, (some 4), [17]⟩]
def m33 : MFunc := ⟨18, [.tmp 4],
  (.seq (.region m33r0 [0, 1])
  (.seq (.region m33r1 [4])
  .ret))⟩
def h33 : List RH := [⟨[0, 1], 0, false, []⟩, ⟨[4], 0, false, []⟩]
theorem m33_ok : cmpFn Tryd.prog 33 h33 = some m33 := by kernel_rfl

/- dialtone/dialtoneref37.Contains -/
def m34r0 : List MOper := [⟨.box 3 (.tmp 0), none, (some 2), [0]⟩,
  ⟨.mv (.lit (.bool false)), none, (some 4), []⟩]
def m34r1 : List MOper := [⟨.mv (.tmp 1), none, (some 7), [1]⟩,
  ⟨.bin .quo .other (.tmp 7) (.lit (.int .i64 86400000)), none, (some 8), [7]⟩,
  ⟨.bin .rem .other (.tmp 8) (.lit (.int .i64 7)), none, (some 9), [8]⟩,
  ⟨.mv (.tmp 9), none, (some 5), [9]⟩]
def m34r2 : List MOper := [⟨.mv (.tmp 1), none, (some 10), [1]⟩,
  ⟨.bin .quo .other (.tmp 10) (.lit (.int .i64 60000)), none, (some 11), [10]⟩,
  ⟨.bin .rem .other (.tmp 11) (.lit (.int .i64 1440)), none, (some 12), [11]⟩,
  ⟨.mv (.tmp 12), none, (some 6), [12]⟩]
def m34r3 : List MOper := [⟨.faddr 0 (.tmp 2), none, (some 13), [2]⟩,
  ⟨.load none (.tmp 13), none, (some 14), [13]⟩,
  ⟨.conv .i64 (.tmp 14), none, (some 15), [14]⟩,
  ⟨.mv (.tmp 5), none, (some 16), [5]⟩,
  ⟨.call 43 [(.tmp 16)], none, (some 17), [16]⟩,
  ⟨.bin .quo .other (.tmp 15) (.tmp 17), none, (some 18), [15, 17]⟩,
  ⟨.bin .rem .other (.tmp 18) (.lit (.int .i64 2)), none, (some 19), [18]⟩,
  ⟨.bin .eql .other (.tmp 19) (.lit (.int .i64 1)), none, (some 20), [19]⟩,
  ⟨.mv (.tmp 20), none, (some 21), [20]⟩,
  ⟨.faddr 1 (.tmp 2), (some (21, true)), (some 22), [2]⟩,
  ⟨.load none (.tmp 22), (some (21, true)), (some 23), [22]⟩,
  ⟨.mv (.tmp 6), (some (21, true)), (some 24), [6]⟩,
  ⟨.bin .leq .other (.tmp 23) (.tmp 24), (some (21, true)), (some 25), [23, 24]⟩,
  ⟨.pick (.tmp 21) (.tmp 25) (.lit (.bool false)), none, (some 26), [21, 25]⟩,
  ⟨.mv (.tmp 26), none, (some 27), [26]⟩,
  ⟨.mv (.tmp 6), (some (27, true)), (some 28), [6]⟩]
def m34r4 : List MOper := [⟨.faddr 2 (.tmp 2), (some (27, true)), (some 29), [2]⟩,
  ⟨.load none (.tmp 29), (some (27, true)), (some 30), [29]⟩,
  ⟨.bin .lss .other (.tmp 28) (.tmp 30), (some (27, true)), (some 31), [28, 30]⟩,
  ⟨.pick (.tmp 27) (.tmp 31) (.lit (.bool false)), none, (some 32), [27, 31]⟩,
  ⟨.mv (.tmp 32), none, (some 4), [32]⟩]
def m34 : MFunc := ⟨33, [.tmp 4],
  (.seq (.region m34r0 [1, 2])
  (.seq (.region m34r1 [1, 2, 5])
  (.seq (.region m34r2 [2, 5, 6])
  (.seq (.dregion m34r3 m34r4 [] [4])
  .ret))))⟩
def h34 : List RH := [⟨[1, 2], 0, false, []⟩, ⟨[1, 2, 5], 0, false, []⟩, ⟨[2, 5, 6], 0, false, []⟩, ⟨[4], 16, false, []⟩]
theorem m34_ok : cmpFn Tryd.prog 34 h34 = some m34 := by kernel_rfl

/- dialtone/rating.rated -/
def m35r0 : List MOper := [⟨.box 5 (.tmp 0), none, (some 1), [0]⟩,
  ⟨.mv (.lit (.bool false)), none, (some 2), []⟩]
def m35r1 : List MOper := [⟨.faddr 0 (.tmp 1), none, (some 4), [1]⟩,
  ⟨.load none (.tmp 4), none, (some 5), [4]⟩,
  ⟨.len 0 (.tmp 5), none, (some 6), [5]⟩,
  ⟨.bin .gtr .other (.tmp 6) (.lit (.int .i64 20)), none, (some 7), [6]⟩,
  ⟨.mv (.tmp 7), none, (some 8), [7]⟩,
  ⟨.faddr 0 (.tmp 1), (some (8, false)), (some 9), [1]⟩,
  ⟨.load none (.tmp 9), (some (8, false)), (some 10), [9]⟩,
  ⟨.call 44 [(.tmp 10), (.lit (.str [48, 49, 50, 51, 52, 53, 54, 55, 56, 57]))], (some (8, false)), (some 11), [10]⟩,
  ⟨.bin .neq .other (.tmp 11) (.lit (.str [])), (some (8, false)), (some 12), [11]⟩,
  ⟨.pick (.tmp 8) (.lit (.bool true)) (.tmp 12), none, (some 13), [8, 12]⟩,
  ⟨.mv (.tmp 13), none, (some 14), [13]⟩,
  ⟨.faddr 1 (.tmp 1), (some (14, false)), (some 15), [1]⟩,
  ⟨.load none (.tmp 15), (some (14, false)), (some 16), [15]⟩,
  ⟨.bin .lss .other (.tmp 16) (.lit (.int .i64 0)), (some (14, false)), (some 17), [16]⟩,
  ⟨.pick (.tmp 14) (.lit (.bool true)) (.tmp 17), none, (some 18), [14, 17]⟩,
  ⟨.mv (.tmp 18), none, (some 19), [18]⟩,
  ⟨.faddr 1 (.tmp 1), (some (19, false)), (some 20), [1]⟩,
  ⟨.load none (.tmp 20), (some (19, false)), (some 21), [20]⟩,
  ⟨.bin .gtr .other (.tmp 21) (.lit (.int .i64 1000000000)), (some (19, false)), (some 22), [21]⟩,
  ⟨.pick (.tmp 19) (.lit (.bool true)) (.tmp 22), none, (some 23), [19, 22]⟩]
def m35r2 : List MOper := [⟨.mv (.lit (.bool false)), none, (some 2), []⟩]
def m35r3 : List MOper := [⟨.faddr 2 (.tmp 1), none, (some 24), [1]⟩,
  ⟨.load none (.tmp 24), none, (some 25), [24]⟩,
  ⟨.bin .lss .other (.tmp 25) (.lit (.int .i64 1)), none, (some 26), [25]⟩,
  ⟨.mv (.tmp 26), none, (some 27), [26]⟩,
  ⟨.faddr 2 (.tmp 1), (some (27, false)), (some 28), [1]⟩,
  ⟨.load none (.tmp 28), (some (27, false)), (some 29), [28]⟩,
  ⟨.bin .gtr .other (.tmp 29) (.lit (.int .i64 3600)), (some (27, false)), (some 30), [29]⟩,
  ⟨.pick (.tmp 27) (.lit (.bool true)) (.tmp 30), none, (some 31), [27, 30]⟩,
  ⟨.mv (.tmp 31), none, (some 32), [31]⟩,
  ⟨.faddr 3 (.tmp 1), (some (32, false)), (some 33), [1]⟩,
  ⟨.load none (.tmp 33), (some (32, false)), (some 34), [33]⟩,
  ⟨.bin .lss .other (.tmp 34) (.lit (.int .i64 1)), (some (32, false)), (some 35), [34]⟩,
  ⟨.pick (.tmp 32) (.lit (.bool true)) (.tmp 35), none, (some 36), [32, 35]⟩,
  ⟨.mv (.tmp 36), none, (some 37), [36]⟩,
  ⟨.faddr 3 (.tmp 1), (some (37, false)), (some 38), [1]⟩,
  ⟨.load none (.tmp 38), (some (37, false)), (some 39), [38]⟩,
  ⟨.bin .gtr .other (.tmp 39) (.lit (.int .i64 3600)), (some (37, false)), (some 40), [39]⟩,
  ⟨.pick (.tmp 37) (.lit (.bool true)) (.tmp 40), none, (some 41), [37, 40]⟩,
  ⟨.mv (.tmp 41), none, (some 42), [41]⟩,
  ⟨.faddr 4 (.tmp 1), (some (42, false)), (some 43), [1]⟩,
  ⟨.load none (.tmp 43), (some (42, false)), (some 44), [43]⟩,
  ⟨.len 1 (.tmp 44), (some (42, false)), (some 45), [44]⟩,
  ⟨.bin .lss .other (.tmp 45) (.lit (.int .i64 1)), (some (42, false)), (some 46), [45]⟩,
  ⟨.pick (.tmp 42) (.lit (.bool true)) (.tmp 46), none, (some 47), [42, 46]⟩,
  ⟨.mv (.tmp 47), none, (some 48), [47]⟩,
  ⟨.faddr 4 (.tmp 1), (some (48, false)), (some 49), [1]⟩,
  ⟨.load none (.tmp 49), (some (48, false)), (some 50), [49]⟩,
  ⟨.len 1 (.tmp 50), (some (48, false)), (some 51), [50]⟩,
  ⟨.bin .gtr .other (.tmp 51) (.lit (.int .i64 20)), (some (48, false)), (some 52), [51]⟩,
  ⟨.pick (.tmp 48) (.lit (.bool true)) (.tmp 52), none, (some 53), [48, 52]⟩]
def m35r4 : List MOper := [⟨.mv (.lit (.bool false)), none, (some 2), []⟩]
def m35r5 : List MOper := [⟨.faddr 4 (.tmp 1), none, (some 54), [1]⟩,
  ⟨.load none (.tmp 54), none, (some 55), [54]⟩,
  ⟨.call 45 [(.tmp 55), (.lit (.func 46 [] []))], none, (some 56), [55]⟩,
  ⟨.mv (.tmp 56), none, (some 3), [56]⟩]
def m35r6 : List MOper := [⟨.mv (.tmp 3), none, (some 57), [3]⟩,
  ⟨.un .not (.tmp 57), none, (some 58), [57]⟩,
  ⟨.mv (.tmp 58), none, (some 59), [58]⟩,
  ⟨.faddr 4 (.tmp 1), (some (59, true)), (some 60), [1]⟩,
  ⟨.load none (.tmp 60), (some (59, true)), (some 61), [60]⟩,
  ⟨.faddr 4 (.tmp 1), (some (59, true)), (some 62), [1]⟩,
  ⟨.load none (.tmp 62), (some (59, true)), (some 63), [62]⟩,
  ⟨.len 1 (.tmp 63), (some (59, true)), (some 64), [63]⟩,
  ⟨.bin .sub .other (.tmp 64) (.lit (.int .i64 1)), (some (59, true)), (some 65), [64]⟩,
  ⟨.iaddr 5 (.tmp 61) (.tmp 65), (some (59, true)), (some 66), [61, 65]⟩,
  ⟨.faddr 0 (.tmp 66), (some (59, true)), (some 67), [66]⟩,
  ⟨.load (some 3) (.tmp 67), (some (59, true)), (some 68), [67]⟩,
  ⟨.build [(.int .u8 0), (.int .i64 0), (.int .i64 0)] [(0, 1, (.lit (.int .u8 127))), (2, 1, (.lit (.int .i64 1440)))], (some (59, true)), (some 69), []⟩,
  ⟨.bin .eql (.flat [0, 0, 0]) (.tmp 68) (.tmp 69), (some (59, true)), (some 70), [68, 69]⟩,
  ⟨.pick (.tmp 59) (.tmp 70) (.lit (.bool false)), none, (some 71), [59, 70]⟩,
  ⟨.mv (.tmp 71), none, (some 2), [71]⟩]
def m35 : MFunc := ⟨72, [.tmp 2],
  (.seq (.region m35r0 [1])
  (.seq (.seq (.region m35r1 [1, 23])
  (.cond (.tmp 23)
  (.seq (.region m35r2 [2])
  .ret)
  .skip))
  (.seq (.seq (.region m35r3 [1, 53])
  (.cond (.tmp 53)
  (.seq (.region m35r4 [2])
  .ret)
  .skip))
  (.seq (.region m35r5 [1, 3])
  (.seq (.region m35r6 [2])
  .ret)))))⟩
def h35 : List RH := [⟨[1], 0, false, []⟩, ⟨[1, 23], 0, false, []⟩, ⟨[2], 0, false, []⟩, ⟨[1, 53], 0, false, []⟩, ⟨[2], 0, false, []⟩, ⟨[1, 3], 0, false, []⟩, ⟨[2], 0, false, []⟩]
theorem m35_ok : cmpFn Tryd.prog 35 h35 = some m35 := by kernel_rfl

/- strings.HasPrefix -/
def m36r0 : List MOper := [⟨.mv (.lit (.bool false)), none, (some 4), []⟩]
def m36r1 : List MOper := [⟨.mv (.tmp 0), none, (some 5), [0]⟩,
  ⟨.mv (.tmp 1), none, (some 6), [1]⟩,
  ⟨.call 48 [(.tmp 5), (.tmp 6)], none, (some 7), [5, 6]⟩,
  ⟨.mv (.tmp 7), none, (some 4), [7]⟩]
def m36 : MFunc := ⟨8, [.tmp 4],
  (.seq (.region m36r0 [0, 1])
  (.seq (.region m36r1 [4])
  .ret))⟩
def h36 : List RH := [⟨[0, 1], 0, false, []⟩, ⟨[4], 0, false, []⟩]
theorem m36_ok : cmpFn Tryd.prog 36 h36 = some m36 := by kernel_rfl

/- dialtone/rating.begins$1 -/
def m37r0 : List MOper := [⟨.load none (.tmp 1), none, (some 7), [1]⟩,
  ⟨.faddr 2 (.tmp 2), none, (some 8), [2]⟩,
  ⟨.load none (.tmp 8), none, (some 9), [8]⟩]
def m37r1 : List MOper := [⟨.mv (.tmp 7), none, (some 5), [7]⟩,
  ⟨.mv (.tmp 9), none, (some 6), [9]⟩]
def m37r2 : List MOper := [⟨.load none (.tmp 8), none, (some 9), [8]⟩]
def m37r3 : List MOper := [⟨.load none (.tmp 8), none, (some 9), [8]⟩]
def m37r4 : List MOper := [⟨.load none (.tmp 3), none, (some 10), [3]⟩,
  ⟨.mv (.lit (.int .i64 0)), none, (some 11), []⟩]
def m37r5 : List MOper := [⟨.bin .lss .other (.tmp 11) (.tmp 10), none, (some 12), [11, 10]⟩]
def m37r6 : List MOper := [⟨.mv (.tmp 0), none, (some 13), [0]⟩,
  ⟨.mv (.tmp 5), none, (some 14), [5]⟩,
  ⟨.callv (.tmp 13) [(.tmp 14)], none, (some 15), [13, 14]⟩,
  ⟨.un .not (.tmp 15), none, (some 16), [15]⟩]
def m37r7 : List MOper := [⟨.mv (.tmp 5), none, (some 17), [5]⟩,
  ⟨.mv (.tmp 6), none, (some 18), [6]⟩,
  ⟨.bin .add .other (.tmp 17) (.tmp 18), none, (some 19), [17, 18]⟩,
  ⟨.mv (.tmp 19), none, (some 5), [19]⟩]
def m37r8 : List MOper := [⟨.faddr 3 (.tmp 2), none, (some 20), [2]⟩,
  ⟨.load none (.tmp 20), none, (some 21), [20]⟩,
  ⟨.mv (.tmp 21), none, (some 6), [21]⟩]
def m37r9 : List MOper := [⟨.bin .add .other (.tmp 11) (.lit (.int .i64 1)), none, (some 22), [11]⟩,
  ⟨.mv (.tmp 22), none, (some 11), [22]⟩]
def m37l10 : MCode := (.seq (.region m37r5 [0, 2, 5, 6, 10, 11, 12])
  (.seq (.cond (.tmp 12)
  .skip
  (.exit 0))
  (.seq (.block 1 (.seq (.seq (.region m37r6 [0, 2, 5, 6, 10, 11, 16])
  (.cond (.tmp 16)
  .ret
  .skip))
  (.seq (.region m37r7 [0, 2, 5, 10, 11])
  (.region m37r8 [0, 2, 5, 6, 10, 11]))))
  (.region m37r9 [0, 2, 5, 6, 10, 11]))))
def m37 : MFunc := ⟨23, [],
  (.seq (.dregion m37r0 m37r1 [m37r2, m37r3, []] [0, 2, 3, 5, 6])
  (.seq (.region m37r4 [0, 2, 5, 6, 10, 11])
  (.block 0 (.loop [0, 2, 5, 6, 10, 11] m37l10))))⟩
def h37 : List RH := [⟨[0, 2, 3, 5, 6], 3, false, []⟩, ⟨[0, 2, 5, 6, 10, 11], 0, false, []⟩, ⟨[0, 2, 5, 6, 10, 11], 0, false, []⟩, ⟨[0, 2, 5, 6, 10, 11, 12], 0, false, []⟩, ⟨[0, 2, 5, 6, 10, 11, 16], 0, false, []⟩, ⟨[0, 2, 5, 10, 11], 0, false, []⟩, ⟨[0, 2, 5, 6, 10, 11], 0, false, []⟩, ⟨[0, 2, 5, 6, 10, 11], 0, false, []⟩]
theorem m37_ok : cmpFn Tryd.prog 37 h37 = some m37 := by kernel_rfl

/- slices.IndexFunc[[]dialtone/api.Price,dialtone/api.Price] -/
def m38r0 : List MOper := [⟨.mv (.lit (.int .i64 0)), none, (some 4), []⟩]
def m38r1 : List MOper := [⟨.mv (.tmp 0), none, (some 6), [0]⟩,
  ⟨.len 1 (.tmp 6), none, (some 7), [6]⟩,
  ⟨.mv (.lit (.int .i64 0)), none, (some 8), []⟩]
def m38r2 : List MOper := [⟨.bin .lss .other (.tmp 8) (.tmp 7), none, (some 9), [8, 7]⟩]
def m38r3 : List MOper := [⟨.mv (.tmp 8), none, (some 10), [8]⟩,
  ⟨.mv (.tmp 10), none, (some 5), [10]⟩]
def m38r4 : List MOper := [⟨.mv (.tmp 1), none, (some 11), [1]⟩,
  ⟨.mv (.tmp 0), none, (some 12), [0]⟩,
  ⟨.mv (.tmp 5), none, (some 13), [5]⟩,
  ⟨.iaddr 5 (.tmp 12) (.tmp 13), none, (some 14), [12, 13]⟩,
  ⟨.load (some 5) (.tmp 14), none, (some 15), [14]⟩,
  ⟨.callv (.tmp 11) [(.tmp 15)], none, (some 16), [11, 15]⟩]
def m38r5 : List MOper := [⟨.mv (.tmp 5), none, (some 17), [5]⟩,
  ⟨.mv (.tmp 17), none, (some 4), [17]⟩]
def m38r6 : List MOper := [⟨.bin .add .other (.tmp 8) (.lit (.int .i64 1)), none, (some 18), [8]⟩,
  ⟨.mv (.tmp 18), none, (some 8), [18]⟩]
def m38l7 : MCode := (.seq (.region m38r2 [0, 1, 7, 8, 9])
  (.seq (.cond (.tmp 9)
  .skip
  (.exit 0))
  (.seq (.block 1 (.seq (.region m38r3 [0, 1, 5, 7, 8])
  (.seq (.region m38r4 [0, 1, 5, 7, 8, 16])
  (.cond (.tmp 16)
  (.seq (.region m38r5 [4])
  .ret)
  .skip))))
  (.region m38r6 [0, 1, 7, 8]))))
def m38r8 : List MOper := [⟨.mv (.lit (.int .i64 (-1))), none, (some 4), []⟩]
def m38 : MFunc := ⟨19, [.tmp 4],
  (.seq (.region m38r0 [0, 1])
  (.seq (.seq (.region m38r1 [0, 1, 7, 8])
  (.block 0 (.loop [0, 1, 7, 8] m38l7)))
  (.seq (.region m38r8 [4])
  .ret)))⟩
def h38 : List RH := [⟨[0, 1], 0, false, []⟩, ⟨[0, 1, 7, 8], 0, false, []⟩, ⟨[0, 1, 7, 8], 0, false, []⟩, ⟨[0, 1, 7, 8, 9], 0, false, []⟩, ⟨[0, 1, 5, 7, 8], 0, false, []⟩, ⟨[0, 1, 5, 7, 8, 16], 0, false, []⟩, ⟨[4], 0, false, []⟩, ⟨[0, 1, 7, 8], 0, false, []⟩, ⟨[4], 0, false, []⟩]
theorem m38_ok : cmpFn Tryd.prog 38 h38 = some m38 := by kernel_rfl

/- dialtone/rating.priceAt$1 -/
def m39r0 : List MOper := [⟨.box 5 (.tmp 0), none, (some 2), [0]⟩,
  ⟨.mv (.lit (.bool false)), none, (some 3), []⟩]
def m39r1 : List MOper := [⟨.faddr 0 (.tmp 2), none, (some 4), [2]⟩,
  ⟨.load (some 3) (.tmp 4), none, (some 5), [4]⟩,
  ⟨.load none (.tmp 1), none, (some 6), [1]⟩,
  ⟨.call 40 [(.tmp 5), (.tmp 6)], none, (some 7), [5, 6]⟩,
  ⟨.mv (.tmp 7), none, (some 3), [7]⟩]
def m39 : MFunc := ⟨8, [.tmp 3],
  (.seq (.region m39r0 [1, 2])
  (.seq (.region m39r1 [3])
  .ret))⟩
def h39 : List RH := [⟨[1, 2], 0, false, []⟩, ⟨[3], 0, false, []⟩]
theorem m39_ok : cmpFn Tryd.prog 39 h39 = some m39 := by kernel_rfl

/- dialtone/rating.contains -/
def m40r0 : List MOper := [⟨.box 3 (.tmp 0), none, (some 2), [0]⟩,
  ⟨.mv (.lit (.bool false)), none, (some 4), []⟩]
def m40r1 : List MOper := [⟨.mv (.tmp 1), none, (some 7), [1]⟩,
  ⟨.bin .quo .other (.tmp 7) (.lit (.int .i64 86400000)), none, (some 8), [7]⟩,
  ⟨.bin .rem .other (.tmp 8) (.lit (.int .i64 7)), none, (some 9), [8]⟩,
  ⟨.mv (.tmp 1), none, (some 10), [1]⟩,
  ⟨.bin .quo .other (.tmp 10) (.lit (.int .i64 60000)), none, (some 11), [10]⟩,
  ⟨.bin .rem .other (.tmp 11) (.lit (.int .i64 1440)), none, (some 12), [11]⟩,
  ⟨.mv (.tmp 9), none, (some 5), [9]⟩,
  ⟨.mv (.tmp 12), none, (some 6), [12]⟩]
def m40r2 : List MOper := [⟨.faddr 0 (.tmp 2), none, (some 13), [2]⟩,
  ⟨.load none (.tmp 13), none, (some 14), [13]⟩,
  ⟨.mv (.tmp 5), none, (some 15), [5]⟩,
  ⟨.bin .shr .other (.tmp 14) (.tmp 15), none, (some 16), [14, 15]⟩,
  ⟨.bin .and .other (.tmp 16) (.lit (.int .u8 1)), none, (some 17), [16]⟩,
  ⟨.bin .eql .other (.tmp 17) (.lit (.int .u8 1)), none, (some 18), [17]⟩,
  ⟨.mv (.tmp 18), none, (some 19), [18]⟩,
  ⟨.mv (.tmp 6), (some (19, true)), (some 20), [6]⟩,
  ⟨.faddr 1 (.tmp 2), (some (19, true)), (some 21), [2]⟩,
  ⟨.load none (.tmp 21), (some (19, true)), (some 22), [21]⟩,
  ⟨.bin .geq .other (.tmp 20) (.tmp 22), (some (19, true)), (some 23), [20, 22]⟩,
  ⟨.pick (.tmp 19) (.tmp 23) (.lit (.bool false)), none, (some 24), [19, 23]⟩,
  ⟨.mv (.tmp 24), none, (some 25), [24]⟩,
  ⟨.mv (.tmp 6), (some (25, true)), (some 26), [6]⟩,
  ⟨.faddr 2 (.tmp 2), (some (25, true)), (some 27), [2]⟩,
  ⟨.load none (.tmp 27), (some (25, true)), (some 28), [27]⟩,
  ⟨.bin .lss .other (.tmp 26) (.tmp 28), (some (25, true)), (some 29), [26, 28]⟩,
  ⟨.pick (.tmp 25) (.tmp 29) (.lit (.bool false)), none, (some 30), [25, 29]⟩,
  ⟨.mv (.tmp 30), none, (some 4), [30]⟩]
def m40 : MFunc := ⟨31, [.tmp 4],
  (.seq (.region m40r0 [1, 2])
  (.seq (.region m40r1 [2, 5, 6])
  (.seq (.region m40r2 [4])
  .ret)))⟩
def h40 : List RH := [⟨[1, 2], 0, false, []⟩, ⟨[2, 5, 6], 0, false, []⟩, ⟨[4], 0, false, []⟩]
theorem m40_ok : cmpFn Tryd.prog 40 h40 = some m40 := by kernel_rfl

/- dialtone/dialtoneref37.money -/
def m41r0 : List MOper := [⟨.mv (.lit (.bool false)), none, (some 2), []⟩]
def m41r1 : List MOper := [⟨.mv (.tmp 0), none, (some 3), [0]⟩,
  ⟨.bin .geq .other (.tmp 3) (.lit (.int .i64 0)), none, (some 4), [3]⟩,
  ⟨.mv (.tmp 4), none, (some 5), [4]⟩,
  ⟨.mv (.tmp 0), (some (5, true)), (some 6), [0]⟩,
  ⟨.bin .leq .other (.tmp 6) (.lit (.int .i64 1000000000)), (some (5, true)), (some 7), [6]⟩,
  ⟨.pick (.tmp 5) (.tmp 7) (.lit (.bool false)), none, (some 8), [5, 7]⟩,
  ⟨.mv (.tmp 8), none, (some 2), [8]⟩]
def m41 : MFunc := ⟨9, [.tmp 2],
  (.seq (.region m41r0 [0])
  (.seq (.region m41r1 [2])
  .ret))⟩
def h41 : List RH := [⟨[0], 0, false, []⟩, ⟨[2], 0, false, []⟩]
theorem m41_ok : cmpFn Tryd.prog 41 h41 = some m41 := by kernel_rfl

/- dialtone/dialtoneref37.Band -/
def m42r0 : List MOper := [⟨.box 3 (.tmp 0), none, (some 1), [0]⟩,
  ⟨.mv (.lit (.bool false)), none, (some 2), []⟩]
def m42r1 : List MOper := [⟨.faddr 0 (.tmp 1), none, (some 3), [1]⟩,
  ⟨.load none (.tmp 3), none, (some 4), [3]⟩,
  ⟨.bin .geq .other (.tmp 4) (.lit (.int .u8 1)), none, (some 5), [4]⟩,
  ⟨.mv (.tmp 5), none, (some 6), [5]⟩,
  ⟨.faddr 0 (.tmp 1), (some (6, true)), (some 7), [1]⟩,
  ⟨.load none (.tmp 7), (some (6, true)), (some 8), [7]⟩,
  ⟨.bin .leq .other (.tmp 8) (.lit (.int .u8 127)), (some (6, true)), (some 9), [8]⟩,
  ⟨.pick (.tmp 6) (.tmp 9) (.lit (.bool false)), none, (some 10), [6, 9]⟩,
  ⟨.mv (.tmp 10), none, (some 11), [10]⟩,
  ⟨.faddr 1 (.tmp 1), (some (11, true)), (some 12), [1]⟩,
  ⟨.load none (.tmp 12), (some (11, true)), (some 13), [12]⟩,
  ⟨.bin .leq .other (.lit (.int .i64 0)) (.tmp 13), (some (11, true)), (some 14), [13]⟩,
  ⟨.pick (.tmp 11) (.tmp 14) (.lit (.bool false)), none, (some 15), [11, 14]⟩,
  ⟨.mv (.tmp 15), none, (some 16), [15]⟩,
  ⟨.faddr 1 (.tmp 1), (some (16, true)), (some 17), [1]⟩,
  ⟨.load none (.tmp 17), (some (16, true)), (some 18), [17]⟩,
  ⟨.faddr 2 (.tmp 1), (some (16, true)), (some 19), [1]⟩,
  ⟨.load none (.tmp 19), (some (16, true)), (some 20), [19]⟩,
  ⟨.bin .lss .other (.tmp 18) (.tmp 20), (some (16, true)), (some 21), [18, 20]⟩,
  ⟨.pick (.tmp 16) (.tmp 21) (.lit (.bool false)), none, (some 22), [16, 21]⟩,
  ⟨.mv (.tmp 22), none, (some 23), [22]⟩,
  ⟨.faddr 2 (.tmp 1), (some (23, true)), (some 24), [1]⟩,
  ⟨.load none (.tmp 24), (some (23, true)), (some 25), [24]⟩,
  ⟨.bin .leq .other (.tmp 25) (.lit (.int .i64 1440)), (some (23, true)), (some 26), [25]⟩,
  ⟨.pick (.tmp 23) (.tmp 26) (.lit (.bool false)), none, (some 27), [23, 26]⟩,
  ⟨.mv (.tmp 27), none, (some 2), [27]⟩]
def m42 : MFunc := ⟨28, [.tmp 2],
  (.seq (.region m42r0 [1])
  (.seq (.region m42r1 [2])
  .ret))⟩
def h42 : List RH := [⟨[1], 0, false, []⟩, ⟨[2], 0, false, []⟩]
theorem m42_ok : cmpFn Tryd.prog 42 h42 = some m42 := by kernel_rfl

/- dialtone/dialtoneref37.bit -/
def m43r0 : List MOper := [⟨.mv (.lit (.int .i64 0)), none, (some 2), []⟩]
def m43r1 : List MOper := [⟨.mv (.lit (.int .i64 1)), none, (some 3), []⟩]
def m43r2 : List MOper := [⟨.mv (.lit (.int .i64 0)), none, (some 4), []⟩]
def m43r3 : List MOper := [⟨.mv (.tmp 4), none, (some 5), [4]⟩,
  ⟨.mv (.tmp 0), none, (some 6), [0]⟩,
  ⟨.bin .lss .other (.tmp 5) (.tmp 6), none, (some 7), [5, 6]⟩]
def m43r4 : List MOper := [⟨.mv (.tmp 3), none, (some 10), [3]⟩,
  ⟨.bin .mul .other (.lit (.int .i64 2)) (.tmp 10), none, (some 11), [10]⟩,
  ⟨.mv (.tmp 11), none, (some 3), [11]⟩]
def m43r5 : List MOper := [⟨.mv (.tmp 4), none, (some 8), [4]⟩,
  ⟨.bin .add .other (.tmp 8) (.lit (.int .i64 1)), none, (some 9), [8]⟩,
  ⟨.mv (.tmp 9), none, (some 4), [9]⟩]
def m43l6 : MCode := (.seq (.seq (.region m43r3 [0, 3, 4, 7])
  (.cond (.tmp 7)
  .skip
  (.exit 0)))
  (.seq (.block 1 (.region m43r4 [0, 3, 4]))
  (.region m43r5 [0, 3, 4])))
def m43r7 : List MOper := [⟨.mv (.tmp 3), none, (some 12), [3]⟩,
  ⟨.mv (.tmp 12), none, (some 2), [12]⟩]
def m43 : MFunc := ⟨13, [.tmp 2],
  (.seq (.region m43r0 [0])
  (.seq (.region m43r1 [0, 3])
  (.seq (.seq (.region m43r2 [0, 3, 4])
  (.block 0 (.loop [0, 3, 4] m43l6)))
  (.seq (.region m43r7 [2])
  .ret))))⟩
def h43 : List RH := [⟨[0], 0, false, []⟩, ⟨[0, 3], 0, false, []⟩, ⟨[0, 3, 4], 0, false, []⟩, ⟨[0, 3, 4], 0, false, []⟩, ⟨[0, 3, 4, 7], 0, false, []⟩, ⟨[0, 3, 4], 0, false, []⟩, ⟨[0, 3, 4], 0, false, []⟩, ⟨[2], 0, false, []⟩]
theorem m43_ok : cmpFn Tryd.prog 43 h43 = some m43 := by kernel_rfl

/- strings.Trim -/
def m44r0 : List MOper := [⟨.mv (.lit (.str [])), none, (some 4), []⟩]
def m44r1 : List MOper := [⟨.mv (.tmp 0), none, (some 7), [0]⟩,
  ⟨.bin .eql .other (.tmp 7) (.lit (.str [])), none, (some 8), [7]⟩,
  ⟨.mv (.tmp 8), none, (some 9), [8]⟩,
  ⟨.mv (.tmp 1), (some (9, false)), (some 10), [1]⟩,
  ⟨.bin .eql .other (.tmp 10) (.lit (.str [])), (some (9, false)), (some 11), [10]⟩,
  ⟨.pick (.tmp 9) (.lit (.bool true)) (.tmp 11), none, (some 12), [9, 11]⟩]
def m44r2 : List MOper := [⟨.mv (.tmp 0), none, (some 13), [0]⟩,
  ⟨.mv (.tmp 13), none, (some 4), [13]⟩]
def m44r3 : List MOper := [⟨.mv (.tmp 1), none, (some 14), [1]⟩,
  ⟨.len 0 (.tmp 14), none, (some 15), [14]⟩,
  ⟨.bin .eql .other (.tmp 15) (.lit (.int .i64 1)), none, (some 16), [15]⟩,
  ⟨.mv (.tmp 16), none, (some 17), [16]⟩,
  ⟨.mv (.tmp 1), (some (17, true)), (some 18), [1]⟩,
  ⟨.sidx (.tmp 18) (.lit (.int .i64 0)), (some (17, true)), (some 19), [18]⟩,
  ⟨.bin .lss .other (.tmp 19) (.lit (.int .u8 128)), (some (17, true)), (some 20), [19]⟩,
  ⟨.pick (.tmp 17) (.tmp 20) (.lit (.bool false)), none, (some 21), [17, 20]⟩]
def m44r4 : List MOper := [⟨.mv (.tmp 0), none, (some 22), [0]⟩,
  ⟨.mv (.tmp 1), none, (some 23), [1]⟩,
  ⟨.sidx (.tmp 23) (.lit (.int .i64 0)), none, (some 24), [23]⟩,
  ⟨.mv (.tmp 1), none, (some 26), [1]⟩,
  ⟨.sidx (.tmp 26) (.lit (.int .i64 0)), none, (some 27), [26]⟩]
def m44r5 : List MOper := [⟨.call 50 [(.tmp 22), (.tmp 24)], none, (some 25), [22, 24]⟩,
  ⟨.call 49 [(.tmp 25), (.tmp 27)], none, (some 28), [25, 27]⟩,
  ⟨.mv (.tmp 28), none, (some 4), [28]⟩]
def m44r6 : List MOper := [⟨.mv (.tmp 1), none, (some 30), [1]⟩,
  ⟨.call 51 [(.tmp 30)], none, (some 31), [30]⟩,
  ⟨.mv (.tmp 31), none, (some 29), [31]⟩,
  ⟨.ext 0 (.tmp 29), none, (some 32), [29]⟩,
  ⟨.ext 1 (.tmp 29), none, (some 33), [29]⟩,
  ⟨.zbox [(.bool false), (.bool false), (.bool false), (.bool false), (.bool false), (.bool false), (.bool false), (.bool false), (.bool false), (.bool false), (.bool false), (.bool false), (.bool false), (.bool false), (.bool false), (.bool false), (.bool false), (.bool false), (.bool false), (.bool false), (.bool false), (.bool false), (.bool false), (.bool false), (.bool false), (.bool false), (.bool false), (.bool false), (.bool false), (.bool false), (.bool false), (.bool false), (.bool false), (.bool false), (.bool false), (.bool false), (.bool false), (.bool false), (.bool false), (.bool false), (.bool false), (.bool false), (.bool false), (.bool false), (.bool false), (.bool false), (.bool false), (.bool false), (.bool false), (.bool false), (.bool false), (.bool false), (.bool false), (.bool false), (.bool false), (.bool false), (.bool false), (.bool false), (.bool false), (.bool false), (.bool false), (.bool false), (.bool false), (.bool false), (.bool false), (.bool false), (.bool false), (.bool false), (.bool false), (.bool false), (.bool false), (.bool false), (.bool false), (.bool false), (.bool false), (.bool false), (.bool false), (.bool false), (.bool false), (.bool false), (.bool false), (.bool false), (.bool false), (.bool false), (.bool false), (.bool false), (.bool false), (.bool false), (.bool false), (.bool false), (.bool false), (.bool false), (.bool false), (.bool false), (.bool false), (.bool false), (.bool false), (.bool false), (.bool false), (.bool false), (.bool false), (.bool false), (.bool false), (.bool false), (.bool false), (.bool false), (.bool false), (.bool false), (.bool false), (.bool false), (.bool false), (.bool false), (.bool false), (.bool false), (.bool false), (.bool false), (.bool false), (.bool false), (.bool false), (.bool false), (.bool false), (.bool false), (.bool false), (.bool false), (.bool false), (.bool false), (.bool false), (.bool false), (.bool false), (.bool false), (.bool false), (.bool false), (.bool false), (.bool false), (.bool false), (.bool false), (.bool false), (.bool false), (.bool false), (.bool false), (.bool false), (.bool false), (.bool false), (.bool false), (.bool false), (.bool false), (.bool false), (.bool false), (.bool false), (.bool false), (.bool false), (.bool false), (.bool false), (.bool false), (.bool false), (.bool false), (.bool false), (.bool false), (.bool false), (.bool false), (.bool false), (.bool false), (.bool false), (.bool false), (.bool false), (.bool false), (.bool false), (.bool false), (.bool false), (.bool false), (.bool false), (.bool false), (.bool false), (.bool false), (.bool false), (.bool false), (.bool false), (.bool false), (.bool false), (.bool false), (.bool false), (.bool false), (.bool false), (.bool false), (.bool false), (.bool false), (.bool false), (.bool false), (.bool false), (.bool false), (.bool false), (.bool false), (.bool false), (.bool false), (.bool false), (.bool false), (.bool false), (.bool false), (.bool false), (.bool false), (.bool false), (.bool false), (.bool false), (.bool false), (.bool false), (.bool false), (.bool false), (.bool false), (.bool false), (.bool false), (.bool false), (.bool false), (.bool false), (.bool false), (.bool false), (.bool false), (.bool false), (.bool false), (.bool false), (.bool false), (.bool false), (.bool false), (.bool false), (.bool false), (.bool false), (.bool false), (.bool false), (.bool false), (.bool false), (.bool false), (.bool false), (.bool false), (.bool false), (.bool false), (.bool false), (.bool false), (.bool false), (.bool false), (.bool false), (.bool false), (.bool false), (.bool false), (.bool false), (.bool false), (.bool false), (.bool false), (.bool false), (.bool false), (.bool false), (.bool false), (.bool false), (.bool false), (.bool false), (.bool false), (.bool false), (.bool false)], none, (some 5), []⟩,
  ⟨.store 256 (.tmp 5) (.tmp 32), none, none, [5, 32]⟩,
  ⟨.mv (.tmp 33), none, (some 6), [33]⟩]
def m44r7 : List MOper := [⟨.mv (.tmp 6), none, (some 34), [6]⟩]
def m44r8 : List MOper := [⟨.mv (.tmp 0), none, (some 35), [0]⟩,
  ⟨.call 53 [(.tmp 35), (.tmp 5)], none, (some 36), [35, 5]⟩,
  ⟨.call 52 [(.tmp 36), (.tmp 5)], none, (some 37), [36, 5]⟩,
  ⟨.mv (.tmp 37), none, (some 4), [37]⟩]
def m44r9 : List MOper := [⟨.mv (.tmp 0), none, (some 38), [0]⟩,
  ⟨.mv (.tmp 1), none, (some 39), [1]⟩,
  ⟨.call 55 [(.tmp 38), (.tmp 39)], none, (some 40), [38, 39]⟩,
  ⟨.mv (.tmp 1), none, (some 41), [1]⟩,
  ⟨.call 54 [(.tmp 40), (.tmp 41)], none, (some 42), [40, 41]⟩,
  ⟨.mv (.tmp 42), none, (some 4), [42]⟩]
def m44 : MFunc := ⟨43, [.tmp 4],
  (.seq (.region m44r0 [0, 1])
  (.seq (.seq (.region m44r1 [0, 1, 12])
  (.cond (.tmp 12)
  (.seq (.region m44r2 [4])
  .ret)
  .skip))
  (.seq (.seq (.region m44r3 [0, 1, 21])
  (.cond (.tmp 21)
  (.seq (.dregion m44r4 m44r5 [] [4])
  .ret)
  .skip))
  (.seq (.seq (.region m44r6 [0, 1, 5, 6])
  (.seq (.region m44r7 [0, 1, 5, 34])
  (.cond (.tmp 34)
  (.seq (.region m44r8 [4])
  .ret)
  .skip)))
  (.seq (.region m44r9 [4])
  .ret)))))⟩
def h44 : List RH := [⟨[0, 1], 0, false, []⟩, ⟨[0, 1, 12], 0, false, []⟩, ⟨[4], 0, false, []⟩, ⟨[0, 1, 21], 0, false, []⟩, ⟨[4], 5, false, [0, 1, 2, 4, 5, 3, 6, 7]⟩, ⟨[0, 1, 5, 6], 0, false, []⟩, ⟨[0, 1, 5, 34], 0, false, []⟩, ⟨[4], 0, false, []⟩, ⟨[4], 0, false, []⟩]
theorem m44_ok : cmpFn Tryd.prog 44 h44 = some m44 := by kernel_rfl

/- slices.ContainsFunc[[]dialtone/api.Price,dialtone/api.Price] -/
def m45r0 : List MOper := [⟨.mv (.lit (.bool false)), none, (some 4), []⟩]
def m45r1 : List MOper := [⟨.mv (.tmp 0), none, (some 5), [0]⟩,
  ⟨.mv (.tmp 1), none, (some 6), [1]⟩,
  ⟨.call 38 [(.tmp 5), (.tmp 6)], none, (some 7), [5, 6]⟩,
  ⟨.bin .geq .other (.tmp 7) (.lit (.int .i64 0)), none, (some 8), [7]⟩,
  ⟨.mv (.tmp 8), none, (some 4), [8]⟩]
def m45 : MFunc := ⟨9, [.tmp 4],
  (.seq (.region m45r0 [0, 1])
  (.seq (.region m45r1 [4])
  .ret))⟩
def h45 : List RH := [⟨[0, 1], 0, false, []⟩, ⟨[4], 0, false, []⟩]
theorem m45_ok : cmpFn Tryd.prog 45 h45 = some m45 := by kernel_rfl

/- dialtone/rating.rated$1 -/
def m46r0 : List MOper := [⟨.box 5 (.tmp 0), none, (some 1), [0]⟩,
  ⟨.mv (.lit (.bool false)), none, (some 2), []⟩]
def m46r1 : List MOper := [⟨.load (some 5) (.tmp 1), none, (some 3), [1]⟩,
  ⟨.call 47 [(.tmp 3)], none, (some 4), [3]⟩,
  ⟨.un .not (.tmp 4), none, (some 5), [4]⟩,
  ⟨.mv (.tmp 5), none, (some 2), [5]⟩]
def m46 : MFunc := ⟨6, [.tmp 2],
  (.seq (.region m46r0 [1])
  (.seq (.region m46r1 [2])
  .ret))⟩
def h46 : List RH := [⟨[1], 0, false, []⟩, ⟨[2], 0, false, []⟩]
theorem m46_ok : cmpFn Tryd.prog 46 h46 = some m46 := by kernel_rfl

/- dialtone/rating.banded -/
def m47r0 : List MOper := [⟨.box 5 (.tmp 0), none, (some 1), [0]⟩,
  ⟨.mv (.lit (.bool false)), none, (some 2), []⟩]
def m47r1 : List MOper := [⟨.faddr 0 (.tmp 1), none, (some 4), [1]⟩,
  ⟨.load (some 3) (.tmp 4), none, (some 5), [4]⟩,
  ⟨.zbox [(.int .u8 0), (.int .i64 0), (.int .i64 0)], none, (some 3), []⟩,
  ⟨.store 3 (.tmp 3) (.tmp 5), none, none, [3, 5]⟩]
def m47r2 : List MOper := [⟨.faddr 0 (.tmp 3), none, (some 6), [3]⟩,
  ⟨.load none (.tmp 6), none, (some 7), [6]⟩,
  ⟨.bin .geq .other (.tmp 7) (.lit (.int .u8 1)), none, (some 8), [7]⟩,
  ⟨.mv (.tmp 8), none, (some 9), [8]⟩,
  ⟨.faddr 0 (.tmp 3), (some (9, true)), (some 10), [3]⟩,
  ⟨.load none (.tmp 10), (some (9, true)), (some 11), [10]⟩,
  ⟨.bin .leq .other (.tmp 11) (.lit (.int .u8 127)), (some (9, true)), (some 12), [11]⟩,
  ⟨.pick (.tmp 9) (.tmp 12) (.lit (.bool false)), none, (some 13), [9, 12]⟩,
  ⟨.mv (.tmp 13), none, (some 14), [13]⟩,
  ⟨.faddr 1 (.tmp 3), (some (14, true)), (some 15), [3]⟩,
  ⟨.load none (.tmp 15), (some (14, true)), (some 16), [15]⟩,
  ⟨.bin .geq .other (.tmp 16) (.lit (.int .i64 0)), (some (14, true)), (some 17), [16]⟩,
  ⟨.pick (.tmp 14) (.tmp 17) (.lit (.bool false)), none, (some 18), [14, 17]⟩,
  ⟨.mv (.tmp 18), none, (some 19), [18]⟩,
  ⟨.faddr 1 (.tmp 3), (some (19, true)), (some 20), [3]⟩,
  ⟨.load none (.tmp 20), (some (19, true)), (some 21), [20]⟩,
  ⟨.faddr 2 (.tmp 3), (some (19, true)), (some 22), [3]⟩,
  ⟨.load none (.tmp 22), (some (19, true)), (some 23), [22]⟩,
  ⟨.bin .lss .other (.tmp 21) (.tmp 23), (some (19, true)), (some 24), [21, 23]⟩,
  ⟨.pick (.tmp 19) (.tmp 24) (.lit (.bool false)), none, (some 25), [19, 24]⟩,
  ⟨.mv (.tmp 25), none, (some 26), [25]⟩,
  ⟨.faddr 2 (.tmp 3), (some (26, true)), (some 27), [3]⟩,
  ⟨.load none (.tmp 27), (some (26, true)), (some 28), [27]⟩,
  ⟨.bin .leq .other (.tmp 28) (.lit (.int .i64 1440)), (some (26, true)), (some 29), [28]⟩,
  ⟨.pick (.tmp 26) (.tmp 29) (.lit (.bool false)), none, (some 30), [26, 29]⟩,
  ⟨.mv (.tmp 30), none, (some 31), [30]⟩,
  ⟨.faddr 3 (.tmp 1), (some (31, true)), (some 32), [1]⟩,
  ⟨.load none (.tmp 32), (some (31, true)), (some 33), [32]⟩,
  ⟨.bin .geq .other (.tmp 33) (.lit (.int .i64 0)), (some (31, true)), (some 34), [33]⟩,
  ⟨.pick (.tmp 31) (.tmp 34) (.lit (.bool false)), none, (some 35), [31, 34]⟩,
  ⟨.mv (.tmp 35), none, (some 36), [35]⟩,
  ⟨.faddr 3 (.tmp 1), (some (36, true)), (some 37), [1]⟩,
  ⟨.load none (.tmp 37), (some (36, true)), (some 38), [37]⟩,
  ⟨.bin .leq .other (.tmp 38) (.lit (.int .i64 1000000000)), (some (36, true)), (some 39), [38]⟩,
  ⟨.pick (.tmp 36) (.tmp 39) (.lit (.bool false)), none, (some 40), [36, 39]⟩,
  ⟨.mv (.tmp 40), none, (some 41), [40]⟩,
  ⟨.faddr 4 (.tmp 1), (some (41, true)), (some 42), [1]⟩,
  ⟨.load none (.tmp 42), (some (41, true)), (some 43), [42]⟩,
  ⟨.bin .geq .other (.tmp 43) (.lit (.int .i64 0)), (some (41, true)), (some 44), [43]⟩,
  ⟨.pick (.tmp 41) (.tmp 44) (.lit (.bool false)), none, (some 45), [41, 44]⟩,
  ⟨.mv (.tmp 45), none, (some 46), [45]⟩,
  ⟨.faddr 4 (.tmp 1), (some (46, true)), (some 47), [1]⟩,
  ⟨.load none (.tmp 47), (some (46, true)), (some 48), [47]⟩,
  ⟨.bin .leq .other (.tmp 48) (.lit (.int .i64 1000000000)), (some (46, true)), (some 49), [48]⟩,
  ⟨.pick (.tmp 46) (.tmp 49) (.lit (.bool false)), none, (some 50), [46, 49]⟩,
  ⟨.mv (.tmp 50), none, (some 2), [50]⟩]
def m47 : MFunc := ⟨51, [.tmp 2],
  (.seq (.region m47r0 [1])
  (.seq (.region m47r1 [1, 3])
  (.seq (.region m47r2 [2])
  .ret)))⟩
def h47 : List RH := [⟨[1], 0, false, []⟩, ⟨[1, 3], 0, false, []⟩, ⟨[2], 0, false, []⟩]
theorem m47_ok : cmpFn Tryd.prog 47 h47 = some m47 := by kernel_rfl

/- internal/stringslite.HasPrefix -/
def m48r0 : List MOper := [⟨.mv (.lit (.bool false)), none, (some 4), []⟩]
def m48r1 : List MOper := [⟨.mv (.tmp 0), none, (some 5), [0]⟩,
  ⟨.len 0 (.tmp 5), none, (some 6), [5]⟩,
  ⟨.mv (.tmp 1), none, (some 7), [1]⟩,
  ⟨.len 0 (.tmp 7), none, (some 8), [7]⟩,
  ⟨.bin .geq .other (.tmp 6) (.tmp 8), none, (some 9), [6, 8]⟩,
  ⟨.mv (.tmp 9), none, (some 10), [9]⟩,
  ⟨.mv (.tmp 0), (some (10, true)), (some 11), [0]⟩,
  ⟨.mv (.tmp 1), (some (10, true)), (some 12), [1]⟩,
  ⟨.len 0 (.tmp 12), (some (10, true)), (some 13), [12]⟩,
  ⟨.sslc (.tmp 11) none (some (.tmp 13)), (some (10, true)), (some 14), [11, 13]⟩,
  ⟨.mv (.tmp 1), (some (10, true)), (some 15), [1]⟩,
  ⟨.bin .eql .other (.tmp 14) (.tmp 15), (some (10, true)), (some 16), [14, 15]⟩,
  ⟨.pick (.tmp 10) (.tmp 16) (.lit (.bool false)), none, (some 17), [10, 16]⟩,
  ⟨.mv (.tmp 17), none, (some 4), [17]⟩]
def m48 : MFunc := ⟨18, [.tmp 4],
  (.seq (.region m48r0 [0, 1])
  (.seq (.region m48r1 [4])
  .ret))⟩
def h48 : List RH := [⟨[0, 1], 0, false, []⟩, ⟨[4], 0, false, []⟩]
theorem m48_ok : cmpFn Tryd.prog 48 h48 = some m48 := by kernel_rfl

/- strings.makeASCIISet -/
def m51r0 : List MOper := [⟨.zbox [(.bool false), (.bool false), (.bool false), (.bool false), (.bool false), (.bool false), (.bool false), (.bool false), (.bool false), (.bool false), (.bool false), (.bool false), (.bool false), (.bool false), (.bool false), (.bool false), (.bool false), (.bool false), (.bool false), (.bool false), (.bool false), (.bool false), (.bool false), (.bool false), (.bool false), (.bool false), (.bool false), (.bool false), (.bool false), (.bool false), (.bool false), (.bool false), (.bool false), (.bool false), (.bool false), (.bool false), (.bool false), (.bool false), (.bool false), (.bool false), (.bool false), (.bool false), (.bool false), (.bool false), (.bool false), (.bool false), (.bool false), (.bool false), (.bool false), (.bool false), (.bool false), (.bool false), (.bool false), (.bool false), (.bool false), (.bool false), (.bool false), (.bool false), (.bool false), (.bool false), (.bool false), (.bool false), (.bool false), (.bool false), (.bool false), (.bool false), (.bool false), (.bool false), (.bool false), (.bool false), (.bool false), (.bool false), (.bool false), (.bool false), (.bool false), (.bool false), (.bool false), (.bool false), (.bool false), (.bool false), (.bool false), (.bool false), (.bool false), (.bool false), (.bool false), (.bool false), (.bool false), (.bool false), (.bool false), (.bool false), (.bool false), (.bool false), (.bool false), (.bool false), (.bool false), (.bool false), (.bool false), (.bool false), (.bool false), (.bool false), (.bool false), (.bool false), (.bool false), (.bool false), (.bool false), (.bool false), (.bool false), (.bool false), (.bool false), (.bool false), (.bool false), (.bool false), (.bool false), (.bool false), (.bool false), (.bool false), (.bool false), (.bool false), (.bool false), (.bool false), (.bool false), (.bool false), (.bool false), (.bool false), (.bool false), (.bool false), (.bool false), (.bool false), (.bool false), (.bool false), (.bool false), (.bool false), (.bool false), (.bool false), (.bool false), (.bool false), (.bool false), (.bool false), (.bool false), (.bool false), (.bool false), (.bool false), (.bool false), (.bool false), (.bool false), (.bool false), (.bool false), (.bool false), (.bool false), (.bool false), (.bool false), (.bool false), (.bool false), (.bool false), (.bool false), (.bool false), (.bool false), (.bool false), (.bool false), (.bool false), (.bool false), (.bool false), (.bool false), (.bool false), (.bool false), (.bool false), (.bool false), (.bool false), (.bool false), (.bool false), (.bool false), (.bool false), (.bool false), (.bool false), (.bool false), (.bool false), (.bool false), (.bool false), (.bool false), (.bool false), (.bool false), (.bool false), (.bool false), (.bool false), (.bool false), (.bool false), (.bool false), (.bool false), (.bool false), (.bool false), (.bool false), (.bool false), (.bool false), (.bool false), (.bool false), (.bool false), (.bool false), (.bool false), (.bool false), (.bool false), (.bool false), (.bool false), (.bool false), (.bool false), (.bool false), (.bool false), (.bool false), (.bool false), (.bool false), (.bool false), (.bool false), (.bool false), (.bool false), (.bool false), (.bool false), (.bool false), (.bool false), (.bool false), (.bool false), (.bool false), (.bool false), (.bool false), (.bool false), (.bool false), (.bool false), (.bool false), (.bool false), (.bool false), (.bool false), (.bool false), (.bool false), (.bool false), (.bool false), (.bool false), (.bool false), (.bool false), (.bool false), (.bool false), (.bool false), (.bool false), (.bool false), (.bool false), (.bool false), (.bool false), (.bool false), (.bool false), (.bool false), (.bool false), (.bool false), (.bool false), (.bool false), (.bool false), (.bool false), (.bool false), (.bool false), (.bool false)], none, (some 2), []⟩,
  ⟨.mv (.lit (.bool false)), none, (some 3), []⟩]
def m51r1 : List MOper := [⟨.mv (.lit (.int .i64 0)), none, (some 4), []⟩]
def m51r2 : List MOper := [⟨.mv (.tmp 4), none, (some 6), [4]⟩,
  ⟨.mv (.tmp 0), none, (some 7), [0]⟩,
  ⟨.len 0 (.tmp 7), none, (some 8), [7]⟩,
  ⟨.bin .lss .other (.tmp 6) (.tmp 8), none, (some 9), [6, 8]⟩]
def m51r3 : List MOper := [⟨.mv (.tmp 0), none, (some 12), [0]⟩,
  ⟨.mv (.tmp 4), none, (some 13), [4]⟩,
  ⟨.sidx (.tmp 12) (.tmp 13), none, (some 14), [12, 13]⟩,
  ⟨.mv (.tmp 14), none, (some 5), [14]⟩]
def m51r4 : List MOper := [⟨.mv (.tmp 5), none, (some 15), [5]⟩,
  ⟨.bin .geq .other (.tmp 15) (.lit (.int .u8 128)), none, (some 16), [15]⟩]
def m51r5 : List MOper := [⟨.load (some 256) (.tmp 2), none, (some 17), [2]⟩,
  ⟨.store 256 (.tmp 2) (.tmp 17), none, none, [2, 17]⟩,
  ⟨.mv (.lit (.bool false)), none, (some 3), []⟩]
def m51r6 : List MOper := [⟨.mv (.tmp 5), none, (some 18), [5]⟩,
  ⟨.aaddr 256 1 (.tmp 2) (.tmp 18), none, (some 19), [2, 18]⟩,
  ⟨.store 1 (.tmp 19) (.lit (.bool true)), none, none, [19]⟩]
def m51r7 : List MOper := [⟨.mv (.tmp 4), none, (some 10), [4]⟩,
  ⟨.bin .add .other (.tmp 10) (.lit (.int .i64 1)), none, (some 11), [10]⟩,
  ⟨.mv (.tmp 11), none, (some 4), [11]⟩]
def m51l8 : MCode := (.seq (.seq (.region m51r2 [0, 2, 4, 9])
  (.cond (.tmp 9)
  .skip
  (.exit 0)))
  (.seq (.block 1 (.seq (.region m51r3 [0, 2, 4, 5])
  (.seq (.seq (.region m51r4 [0, 2, 4, 5, 16])
  (.cond (.tmp 16)
  (.seq (.region m51r5 [2, 3])
  .ret)
  .skip))
  (.region m51r6 [0, 2, 4]))))
  (.region m51r7 [0, 2, 4])))
def m51r9 : List MOper := [⟨.load (some 256) (.tmp 2), none, (some 20), [2]⟩,
  ⟨.store 256 (.tmp 2) (.tmp 20), none, none, [2, 20]⟩,
  ⟨.mv (.lit (.bool true)), none, (some 3), []⟩]
def m51 : MFunc := ⟨21, [.cell 2 (some 256), .tmp 3],
  (.seq (.region m51r0 [0, 2])
  (.seq (.seq (.region m51r1 [0, 2, 4])
  (.block 0 (.loop [0, 2, 4] m51l8)))
  (.seq (.region m51r9 [2, 3])
  .ret)))⟩
def h51 : List RH := [⟨[0, 2], 0, false, []⟩, ⟨[0, 2, 4], 0, false, []⟩, ⟨[0, 2, 4], 0, false, []⟩, ⟨[0, 2, 4, 9], 0, false, []⟩, ⟨[0, 2, 4, 5], 0, false, []⟩, ⟨[0, 2, 4, 5, 16], 0, false, []⟩, ⟨[2, 3], 0, false, []⟩, ⟨[0, 2, 4], 0, false, []⟩, ⟨[0, 2, 4], 0, false, []⟩, ⟨[2, 3], 0, false, []⟩]
theorem m51_ok : cmpFn Tryd.prog 51 h51 = some m51 := by kernel_rfl

/- strings.trimLeftASCII -/
def m52r0 : List MOper := [⟨.mv (.lit (.str [])), none, (some 4), []⟩]
def m52r1 : List MOper := [⟨.mv (.tmp 0), none, (some 5), [0]⟩,
  ⟨.len 0 (.tmp 5), none, (some 6), [5]⟩,
  ⟨.bin .gtr .other (.tmp 6) (.lit (.int .i64 0)), none, (some 7), [6]⟩]
def m52r2 : List MOper := [⟨.mv (.tmp 1), none, (some 8), [1]⟩,
  ⟨.mv (.tmp 0), none, (some 9), [0]⟩,
  ⟨.sidx (.tmp 9) (.lit (.int .i64 0)), none, (some 10), [9]⟩,
  ⟨.call 56 [(.tmp 8), (.tmp 10)], none, (some 11), [8, 10]⟩,
  ⟨.un .not (.tmp 11), none, (some 12), [11]⟩]
def m52r3 : List MOper := [⟨.mv (.tmp 0), none, (some 13), [0]⟩,
  ⟨.sslc (.tmp 13) (some (.lit (.int .i64 1))) none, none, (some 14), [13]⟩,
  ⟨.mv (.tmp 14), none, (some 0), [14]⟩]
def m52l4 : MCode := (.seq (.seq (.region m52r1 [0, 1, 7])
  (.cond (.tmp 7)
  .skip
  (.exit 0)))
  (.block 1 (.seq (.seq (.region m52r2 [0, 1, 12])
  (.cond (.tmp 12)
  (.exit 0)
  .skip))
  (.region m52r3 [0, 1]))))
def m52r5 : List MOper := [⟨.mv (.tmp 0), none, (some 15), [0]⟩,
  ⟨.mv (.tmp 15), none, (some 4), [15]⟩]
def m52 : MFunc := ⟨16, [.tmp 4],
  (.seq (.region m52r0 [0, 1])
  (.seq (.block 0 (.loop [0, 1] m52l4))
  (.seq (.region m52r5 [4])
  .ret)))⟩
def h52 : List RH := [⟨[0, 1], 0, false, []⟩, ⟨[0, 1], 0, false, []⟩, ⟨[0, 1, 7], 0, false, []⟩, ⟨[0, 1, 12], 0, false, []⟩, ⟨[0, 1], 0, false, []⟩, ⟨[4], 0, false, []⟩]
theorem m52_ok : cmpFn Tryd.prog 52 h52 = some m52 := by kernel_rfl

/- strings.trimRightASCII -/
def m53r0 : List MOper := [⟨.mv (.lit (.str [])), none, (some 4), []⟩]
def m53r1 : List MOper := [⟨.mv (.tmp 0), none, (some 5), [0]⟩,
  ⟨.len 0 (.tmp 5), none, (some 6), [5]⟩,
  ⟨.bin .gtr .other (.tmp 6) (.lit (.int .i64 0)), none, (some 7), [6]⟩]
def m53r2 : List MOper := [⟨.mv (.tmp 1), none, (some 8), [1]⟩,
  ⟨.mv (.tmp 0), none, (some 9), [0]⟩,
  ⟨.mv (.tmp 0), none, (some 10), [0]⟩,
  ⟨.len 0 (.tmp 10), none, (some 11), [10]⟩,
  ⟨.bin .sub .other (.tmp 11) (.lit (.int .i64 1)), none, (some 12), [11]⟩,
  ⟨.sidx (.tmp 9) (.tmp 12), none, (some 13), [9, 12]⟩,
  ⟨.call 56 [(.tmp 8), (.tmp 13)], none, (some 14), [8, 13]⟩,
  ⟨.un .not (.tmp 14), none, (some 15), [14]⟩]
def m53r3 : List MOper := [⟨.mv (.tmp 0), none, (some 16), [0]⟩,
  ⟨.mv (.tmp 0), none, (some 17), [0]⟩,
  ⟨.len 0 (.tmp 17), none, (some 18), [17]⟩,
  ⟨.bin .sub .other (.tmp 18) (.lit (.int .i64 1)), none, (some 19), [18]⟩,
  ⟨.sslc (.tmp 16) none (some (.tmp 19)), none, (some 20), [16, 19]⟩,
  ⟨.mv (.tmp 20), none, (some 0), [20]⟩]
def m53l4 : MCode := (.seq (.seq (.region m53r1 [0, 1, 7])
  (.cond (.tmp 7)
  .skip
  (.exit 0)))
  (.block 1 (.seq (.seq (.region m53r2 [0, 1, 15])
  (.cond (.tmp 15)
  (.exit 0)
  .skip))
  (.region m53r3 [0, 1]))))
def m53r5 : List MOper := [⟨.mv (.tmp 0), none, (some 21), [0]⟩,
  ⟨.mv (.tmp 21), none, (some 4), [21]⟩]
def m53 : MFunc := ⟨22, [.tmp 4],
  (.seq (.region m53r0 [0, 1])
  (.seq (.block 0 (.loop [0, 1] m53l4))
  (.seq (.region m53r5 [4])
  .ret)))⟩
def h53 : List RH := [⟨[0, 1], 0, false, []⟩, ⟨[0, 1], 0, false, []⟩, ⟨[0, 1, 7], 0, false, []⟩, ⟨[0, 1, 15], 0, false, []⟩, ⟨[0, 1], 0, false, []⟩, ⟨[4], 0, false, []⟩]
theorem m53_ok : cmpFn Tryd.prog 53 h53 = some m53 := by kernel_rfl

/- (*strings.asciiSet).contains -/
def m56r0 : List MOper := [⟨.mv (.lit (.bool false)), none, (some 4), []⟩]
def m56r1 : List MOper := [⟨.mv (.tmp 0), none, (some 5), [0]⟩,
  ⟨.mv (.tmp 1), none, (some 6), [1]⟩,
  ⟨.nilchk (.tmp 5), none, (some 7), [5]⟩,
  ⟨.aaddr 256 1 (.tmp 7) (.tmp 6), none, (some 8), [7, 6]⟩,
  ⟨.load none (.tmp 8), none, (some 9), [8]⟩,
  ⟨.mv (.tmp 9), none, (some 4), [9]⟩]
def m56 : MFunc := ⟨10, [.tmp 4],
  (.seq (.region m56r0 [0, 1])
  (.seq (.region m56r1 [4])
  .ret))⟩
def h56 : List RH := [⟨[0, 1], 0, false, []⟩, ⟨[4], 0, false, []⟩]
theorem m56_ok : cmpFn Tryd.prog 56 h56 = some m56 := by kernel_rfl

end Go.Ab.Tryd.S
