/-
  The translated functions of this claim, printed by a program of ours (gen.sh), with the kernel's word that they are the translation.
  Conditions: none.
-/
import Derived.Test.YtomcdnibcdojcaaProg
import Derived.Test.YtomcdnibcdojcaaAbEval
import Derived.KernelRfl
namespace Go.Ab.Try.S
open Go.Proofs
/- dialtone/dialtonelaw33.CallmodelEnds -/
def m3r0 : List MOper := [⟨.mv (.lit (.bool false)), none, (some 6), []⟩]
def m3r1 : List MOper := [⟨.mv (.tmp 0), none, (some 16), [0]⟩,
  ⟨.mv (.tmp 0), none, (some 17), [0]⟩,
  ⟨.len 1 (.tmp 17), none, (some 18), [17]⟩,
  ⟨.minmax false (.tmp 18) [(.lit (.int .i64 100))], none, (some 19), [18]⟩,
  ⟨.slc 5 (.tmp 16) none (some (.tmp 19)) none, none, (some 20), [16, 19]⟩,
  ⟨.mv (.tmp 20), none, (some 0), [20]⟩]
def m3r2 : List MOper := [⟨.mv (.tmp 0), none, (some 22), [0]⟩,
  ⟨.call 7 [(.tmp 22)], none, (some 23), [22]⟩,
  ⟨.mv (.tmp 23), none, (some 21), [23]⟩,
  ⟨.ext 0 (.tmp 21), none, (some 24), [21]⟩,
  ⟨.ext 1 (.tmp 21), none, (some 25), [21]⟩,
  ⟨.mv (.tmp 24), none, (some 7), [24]⟩,
  ⟨.mv (.tmp 25), none, (some 8), [25]⟩]
def m3r3 : List MOper := [⟨.mv (.lit (.int .i64 0)), none, (some 9), []⟩]
def m3r4 : List MOper := [⟨.mv (.tmp 9), none, (some 26), [9]⟩,
  ⟨.mv (.tmp 7), none, (some 27), [7]⟩,
  ⟨.len 1 (.tmp 27), none, (some 28), [27]⟩,
  ⟨.bin .lss .other (.tmp 26) (.tmp 28), none, (some 29), [26, 28]⟩]
def m3r5 : List MOper := [⟨.mv (.tmp 7), none, (some 32), [7]⟩,
  ⟨.mv (.tmp 9), none, (some 33), [9]⟩,
  ⟨.iaddr 10 (.tmp 32) (.tmp 33), none, (some 34), [32, 33]⟩,
  ⟨.load (some 10) (.tmp 34), none, (some 35), [34]⟩,
  ⟨.zbox [(.str []), (.int .u8 0), (.bool false), (.bool false), (.int .i64 0), (.int .i64 0), (.int .i64 0), (.int .i64 0), (.int .i64 0), (.int .i64 0)], none, (some 10), []⟩,
  ⟨.store 10 (.tmp 10) (.tmp 35), none, none, [10, 35]⟩]
def m3r6 : List MOper := [⟨.mv (.tmp 1), none, (some 36), [1]⟩,
  ⟨.mv (.tmp 2), none, (some 37), [2]⟩,
  ⟨.minmax false (.tmp 36) [(.tmp 37)], none, (some 38), [36, 37]⟩,
  ⟨.mv (.tmp 1), none, (some 39), [1]⟩,
  ⟨.mv (.tmp 2), none, (some 40), [2]⟩,
  ⟨.minmax true (.tmp 39) [(.tmp 40)], none, (some 41), [39, 40]⟩,
  ⟨.mv (.tmp 38), none, (some 11), [38]⟩,
  ⟨.mv (.tmp 41), none, (some 12), [41]⟩]
def m3r7 : List MOper := [⟨.load (some 10) (.tmp 10), none, (some 42), [10]⟩,
  ⟨.mv (.tmp 11), none, (some 43), [11]⟩,
  ⟨.call 8 [(.tmp 42), (.tmp 43)], none, (some 44), [42, 43]⟩,
  ⟨.load (some 10) (.tmp 10), none, (some 45), [10]⟩,
  ⟨.mv (.tmp 12), none, (some 46), [12]⟩,
  ⟨.call 8 [(.tmp 45), (.tmp 46)], none, (some 47), [45, 46]⟩,
  ⟨.bin .gtr .other (.tmp 44) (.tmp 47), none, (some 48), [44, 47]⟩,
  ⟨.mv (.tmp 48), none, (some 49), [48]⟩,
  ⟨.load (some 10) (.tmp 10), (some (49, false)), (some 50), [10]⟩,
  ⟨.mv (.tmp 11), (some (49, false)), (some 51), [11]⟩]
def m3r8 : List MOper := [⟨.call 8 [(.tmp 50), (.tmp 51)], (some (49, false)), (some 52), [50, 51]⟩,
  ⟨.bin .lss .other (.tmp 52) (.lit (.int .i64 0)), (some (49, false)), (some 53), [52]⟩,
  ⟨.pick (.tmp 49) (.lit (.bool true)) (.tmp 53), none, (some 54), [49, 53]⟩]
def m3r9 : List MOper := [⟨.mv (.lit (.bool false)), none, (some 6), []⟩]
def m3r10 : List MOper := [⟨.faddr 1 (.tmp 10), none, (some 55), [10]⟩,
  ⟨.load none (.tmp 55), none, (some 56), [55]⟩,
  ⟨.bin .neq .other (.tmp 56) (.lit (.int .u8 8)), none, (some 57), [56]⟩]
def m3r11 : List MOper := [⟨.mv (.tmp 11), none, (some 58), [11]⟩,
  ⟨.faddr 8 (.tmp 10), none, (some 59), [10]⟩,
  ⟨.load none (.tmp 59), none, (some 60), [59]⟩,
  ⟨.bin .geq .other (.tmp 58) (.tmp 60), none, (some 61), [58, 60]⟩,
  ⟨.mv (.tmp 61), none, (some 62), [61]⟩,
  ⟨.load (some 10) (.tmp 10), (some (62, true)), (some 63), [10]⟩,
  ⟨.mv (.tmp 11), (some (62, true)), (some 64), [11]⟩,
  ⟨.call 8 [(.tmp 63), (.tmp 64)], (some (62, true)), (some 65), [63, 64]⟩,
  ⟨.load (some 10) (.tmp 10), (some (62, true)), (some 66), [10]⟩,
  ⟨.mv (.tmp 12), (some (62, true)), (some 67), [12]⟩]
def m3r12 : List MOper := [⟨.call 8 [(.tmp 66), (.tmp 67)], (some (62, true)), (some 68), [66, 67]⟩,
  ⟨.bin .neq .other (.tmp 65) (.tmp 68), (some (62, true)), (some 69), [65, 68]⟩,
  ⟨.pick (.tmp 62) (.tmp 69) (.lit (.bool false)), none, (some 70), [62, 69]⟩]
def m3r13 : List MOper := [⟨.mv (.lit (.bool false)), none, (some 6), []⟩]
def m3r14 : List MOper := [⟨.mv (.lit (.int .i64 0)), none, (some 13), []⟩]
def m3r15 : List MOper := [⟨.mv (.tmp 13), none, (some 71), [13]⟩,
  ⟨.mv (.tmp 0), none, (some 72), [0]⟩,
  ⟨.len 1 (.tmp 72), none, (some 73), [72]⟩,
  ⟨.bin .lss .other (.tmp 71) (.tmp 73), none, (some 74), [71, 73]⟩]
def m3r16 : List MOper := [⟨.load (some 10) (.tmp 10), none, (some 78), [10]⟩,
  ⟨.mv (.tmp 0), none, (some 79), [0]⟩,
  ⟨.mv (.tmp 13), none, (some 80), [13]⟩,
  ⟨.iaddr 5 (.tmp 79) (.tmp 80), none, (some 81), [79, 80]⟩,
  ⟨.load (some 5) (.tmp 81), none, (some 82), [81]⟩,
  ⟨.call 9 [(.tmp 78), (.tmp 82)], none, (some 83), [78, 82]⟩,
  ⟨.mv (.tmp 83), none, (some 77), [83]⟩,
  ⟨.ext 0 (.tmp 77), none, (some 84), [77]⟩,
  ⟨.ext 1 (.tmp 77), none, (some 85), [77]⟩,
  ⟨.zbox [(.str []), (.int .u8 0), (.bool false), (.bool false), (.int .i64 0), (.int .i64 0), (.int .i64 0), (.int .i64 0), (.int .i64 0), (.int .i64 0)], none, (some 14), []⟩]
def m3r17 : List MOper := [⟨.store 10 (.tmp 14) (.tmp 84), none, none, [14, 84]⟩,
  ⟨.mv (.tmp 85), none, (some 15), [85]⟩]
def m3r18 : List MOper := [⟨.mv (.tmp 15), none, (some 86), [15]⟩,
  ⟨.mv (.tmp 86), none, (some 87), [86]⟩,
  ⟨.load (some 10) (.tmp 14), (some (87, false)), (some 88), [14]⟩,
  ⟨.load (some 10) (.tmp 10), (some (87, false)), (some 89), [10]⟩,
  ⟨.bin .neq (.flat [2, 0, 1, 1, 0, 0, 0, 0, 0, 0]) (.tmp 88) (.tmp 89), (some (87, false)), (some 90), [88, 89]⟩,
  ⟨.pick (.tmp 87) (.lit (.bool true)) (.tmp 90), none, (some 91), [87, 90]⟩]
def m3r19 : List MOper := [⟨.mv (.lit (.bool false)), none, (some 6), []⟩]
def m3r20 : List MOper := [⟨.mv (.tmp 13), none, (some 75), [13]⟩,
  ⟨.bin .add .other (.tmp 75) (.lit (.int .i64 1)), none, (some 76), [75]⟩,
  ⟨.mv (.tmp 76), none, (some 13), [76]⟩]
def m3l21 : MCode := (.seq (.seq (.region m3r15 [0, 1, 2, 7, 9, 10, 13, 74])
  (.cond (.tmp 74)
  .skip
  (.exit 2)))
  (.seq (.block 3 (.seq (.dregion m3r16 m3r17 [] [0, 1, 2, 7, 9, 10, 13, 14, 15])
  (.seq (.region m3r18 [0, 1, 2, 7, 9, 10, 13, 91])
  (.cond (.tmp 91)
  (.seq (.region m3r19 [6])
  .ret)
  .skip))))
  (.region m3r20 [0, 1, 2, 7, 9, 10, 13])))
def m3r22 : List MOper := [⟨.mv (.tmp 9), none, (some 30), [9]⟩,
  ⟨.bin .add .other (.tmp 30) (.lit (.int .i64 1)), none, (some 31), [30]⟩,
  ⟨.mv (.tmp 31), none, (some 9), [31]⟩]
def m3l23 : MCode := (.seq (.seq (.region m3r4 [0, 1, 2, 7, 9, 29])
  (.cond (.tmp 29)
  .skip
  (.exit 0)))
  (.seq (.block 1 (.seq (.region m3r5 [0, 1, 2, 7, 9, 10])
  (.seq (.region m3r6 [0, 1, 2, 7, 9, 10, 11, 12])
  (.seq (.seq (.dregion m3r7 m3r8 [] [0, 1, 2, 7, 9, 10, 11, 12, 54])
  (.cond (.tmp 54)
  (.seq (.region m3r9 [6])
  .ret)
  .skip))
  (.seq (.seq (.region m3r10 [0, 1, 2, 7, 9, 10, 11, 12, 57])
  (.cond (.tmp 57)
  (.exit 1)
  .skip))
  (.seq (.seq (.dregion m3r11 m3r12 [] [0, 1, 2, 7, 9, 10, 70])
  (.cond (.tmp 70)
  (.seq (.region m3r13 [6])
  .ret)
  .skip))
  (.seq (.region m3r14 [0, 1, 2, 7, 9, 10, 13])
  (.block 2 (.loop [0, 1, 2, 7, 9, 10, 13] m3l21)))))))))
  (.region m3r22 [0, 1, 2, 7, 9])))
def m3r24 : List MOper := [⟨.call 10 [], none, (some 92), []⟩,
  ⟨.mv (.tmp 92), none, (some 6), [92]⟩]
def m3 : MFunc := ⟨93, [.tmp 6],
  (.seq (.region m3r0 [0, 1, 2])
  (.seq (.region m3r1 [0, 1, 2])
  (.seq (.region m3r2 [0, 1, 2, 7])
  (.seq (.seq (.region m3r3 [0, 1, 2, 7, 9])
  (.block 0 (.loop [0, 1, 2, 7, 9] m3l23)))
  (.seq (.region m3r24 [6])
  .ret)))))⟩
def h3 : List RH := [⟨[0, 1, 2], 0, false, []⟩, ⟨[0, 1, 2], 0, false, []⟩, ⟨[0, 1, 2, 7], 0, false, []⟩, ⟨[0, 1, 2, 7, 9], 0, false, []⟩, ⟨[0, 1, 2, 7, 9], 0, false, []⟩, ⟨[0, 1, 2, 7, 9, 29], 0, false, []⟩, ⟨[0, 1, 2, 7, 9, 10], 0, false, []⟩, ⟨[0, 1, 2, 7, 9, 10, 11, 12], 0, false, []⟩, ⟨[0, 1, 2, 7, 9, 10, 11, 12, 54], 10, false, []⟩, ⟨[6], 0, false, []⟩, ⟨[0, 1, 2, 7, 9, 10, 11, 12, 57], 0, false, []⟩, ⟨[0, 1, 2, 7, 9, 10, 70], 10, false, []⟩, ⟨[6], 0, false, []⟩, ⟨[0, 1, 2, 7, 9, 10, 13], 0, false, []⟩, ⟨[0, 1, 2, 7, 9, 10, 13], 0, false, []⟩, ⟨[0, 1, 2, 7, 9, 10, 13, 74], 0, false, []⟩, ⟨[0, 1, 2, 7, 9, 10, 13, 14, 15], 10, false, []⟩, ⟨[0, 1, 2, 7, 9, 10, 13, 91], 0, false, []⟩, ⟨[6], 0, false, []⟩, ⟨[0, 1, 2, 7, 9, 10, 13], 0, false, []⟩, ⟨[0, 1, 2, 7, 9], 0, false, []⟩, ⟨[6], 0, false, []⟩]
theorem m3_ok : cmpFn Try.prog 3 h3 = some m3 := by kernel_rfl

/- dialtone/dialtonelaw33.CallmodelRuns -/
def m5r0 : List MOper := [⟨.mv (.lit (.bool false)), none, (some 2), []⟩]
def m5r1 : List MOper := [⟨.mv (.tmp 0), none, (some 8), [0]⟩,
  ⟨.mv (.tmp 0), none, (some 9), [0]⟩,
  ⟨.len 1 (.tmp 9), none, (some 10), [9]⟩,
  ⟨.minmax false (.tmp 10) [(.lit (.int .i64 200))], none, (some 11), [10]⟩,
  ⟨.slc 5 (.tmp 8) none (some (.tmp 11)) none, none, (some 12), [8, 11]⟩,
  ⟨.mv (.tmp 12), none, (some 0), [12]⟩]
def m5r2 : List MOper := [⟨.mv (.tmp 0), none, (some 14), [0]⟩,
  ⟨.call 7 [(.tmp 14)], none, (some 15), [14]⟩,
  ⟨.mv (.tmp 15), none, (some 13), [15]⟩,
  ⟨.ext 0 (.tmp 13), none, (some 16), [13]⟩,
  ⟨.ext 1 (.tmp 13), none, (some 17), [13]⟩,
  ⟨.mv (.tmp 16), none, (some 3), [16]⟩,
  ⟨.mv (.tmp 17), none, (some 4), [17]⟩]
def m5r3 : List MOper := [⟨.mv (.tmp 0), none, (some 19), [0]⟩,
  ⟨.call 14 [(.tmp 19)], none, (some 20), [19]⟩,
  ⟨.mv (.tmp 20), none, (some 18), [20]⟩,
  ⟨.ext 0 (.tmp 18), none, (some 21), [18]⟩,
  ⟨.ext 1 (.tmp 18), none, (some 22), [18]⟩,
  ⟨.mv (.tmp 21), none, (some 5), [21]⟩,
  ⟨.mv (.tmp 22), none, (some 6), [22]⟩]
def m5r4 : List MOper := [⟨.mv (.tmp 3), none, (some 23), [3]⟩,
  ⟨.mv (.tmp 5), none, (some 24), [5]⟩,
  ⟨.call 12 [(.tmp 23), (.tmp 24)], none, (some 25), [23, 24]⟩,
  ⟨.un .not (.tmp 25), none, (some 26), [25]⟩,
  ⟨.mv (.tmp 26), none, (some 27), [26]⟩,
  ⟨.mv (.tmp 4), (some (27, false)), (some 28), [4]⟩,
  ⟨.mv (.tmp 6), (some (27, false)), (some 29), [6]⟩,
  ⟨.call 13 [(.tmp 28), (.tmp 29)], (some (27, false)), (some 30), [28, 29]⟩,
  ⟨.un .not (.tmp 30), (some (27, false)), (some 31), [30]⟩,
  ⟨.pick (.tmp 27) (.lit (.bool true)) (.tmp 31), none, (some 32), [27, 31]⟩]
def m5r5 : List MOper := [⟨.mv (.lit (.bool false)), none, (some 2), []⟩]
def m5r6 : List MOper := [⟨.mv (.lit (.int .i64 0)), none, (some 7), []⟩]
def m5r7 : List MOper := [⟨.mv (.tmp 7), none, (some 33), [7]⟩,
  ⟨.mv (.tmp 5), none, (some 34), [5]⟩,
  ⟨.len 1 (.tmp 34), none, (some 35), [34]⟩,
  ⟨.bin .lss .other (.tmp 33) (.tmp 35), none, (some 36), [33, 35]⟩]
def m5r8 : List MOper := [⟨.mv (.tmp 5), none, (some 39), [5]⟩,
  ⟨.mv (.tmp 7), none, (some 40), [7]⟩,
  ⟨.iaddr 10 (.tmp 39) (.tmp 40), none, (some 41), [39, 40]⟩,
  ⟨.load (some 10) (.tmp 41), none, (some 42), [41]⟩,
  ⟨.call 15 [(.tmp 42)], none, (some 43), [42]⟩,
  ⟨.un .not (.tmp 43), none, (some 44), [43]⟩]
def m5r9 : List MOper := [⟨.mv (.lit (.bool false)), none, (some 2), []⟩]
def m5r10 : List MOper := [⟨.mv (.tmp 7), none, (some 37), [7]⟩,
  ⟨.bin .add .other (.tmp 37) (.lit (.int .i64 1)), none, (some 38), [37]⟩,
  ⟨.mv (.tmp 38), none, (some 7), [38]⟩]
def m5l11 : MCode := (.seq (.seq (.region m5r7 [5, 7, 36])
  (.cond (.tmp 36)
  .skip
  (.exit 0)))
  (.seq (.block 1 (.seq (.region m5r8 [5, 7, 44])
  (.cond (.tmp 44)
  (.seq (.region m5r9 [2])
  .ret)
  .skip)))
  (.region m5r10 [5, 7])))
def m5r12 : List MOper := [⟨.call 10 [], none, (some 45), []⟩,
  ⟨.mv (.tmp 45), none, (some 2), [45]⟩]
def m5 : MFunc := ⟨46, [.tmp 2],
  (.seq (.region m5r0 [0])
  (.seq (.region m5r1 [0])
  (.seq (.region m5r2 [0, 3, 4])
  (.seq (.region m5r3 [3, 4, 5, 6])
  (.seq (.seq (.region m5r4 [5, 32])
  (.cond (.tmp 32)
  (.seq (.region m5r5 [2])
  .ret)
  .skip))
  (.seq (.seq (.region m5r6 [5, 7])
  (.block 0 (.loop [5, 7] m5l11)))
  (.seq (.region m5r12 [2])
  .ret)))))))⟩
def h5 : List RH := [⟨[0], 0, false, []⟩, ⟨[0], 0, false, []⟩, ⟨[0, 3, 4], 0, false, []⟩, ⟨[3, 4, 5, 6], 0, false, []⟩, ⟨[5, 32], 0, false, []⟩, ⟨[2], 0, false, []⟩, ⟨[5, 7], 0, false, []⟩, ⟨[5, 7], 0, false, []⟩, ⟨[5, 7, 36], 0, false, []⟩, ⟨[5, 7, 44], 0, false, []⟩, ⟨[2], 0, false, []⟩, ⟨[5, 7], 0, false, []⟩, ⟨[2], 0, false, []⟩]
theorem m5_ok : cmpFn Try.prog 5 h5 = some m5 := by kernel_rfl

/- dialtone/dialtonelaw33.CallmodelSteps -/
def m6r0 : List MOper := [⟨.box 10 (.tmp 0), none, (some 2), [0]⟩,
  ⟨.box 5 (.tmp 1), none, (some 3), [1]⟩,
  ⟨.mv (.lit (.bool false)), none, (some 4), []⟩]
def m6r1 : List MOper := [⟨.load (some 10) (.tmp 2), none, (some 7), [2]⟩,
  ⟨.call 16 [(.tmp 7)], none, (some 8), [7]⟩,
  ⟨.un .not (.tmp 8), none, (some 9), [8]⟩]
def m6r2 : List MOper := [⟨.call 10 [], none, (some 10), []⟩,
  ⟨.mv (.tmp 10), none, (some 4), [10]⟩]
def m6r3 : List MOper := [⟨.load (some 10) (.tmp 2), none, (some 12), [2]⟩,
  ⟨.load (some 5) (.tmp 3), none, (some 13), [3]⟩,
  ⟨.call 9 [(.tmp 12), (.tmp 13)], none, (some 14), [12, 13]⟩,
  ⟨.mv (.tmp 14), none, (some 11), [14]⟩,
  ⟨.ext 0 (.tmp 11), none, (some 15), [11]⟩,
  ⟨.ext 1 (.tmp 11), none, (some 16), [11]⟩,
  ⟨.zbox [(.str []), (.int .u8 0), (.bool false), (.bool false), (.int .i64 0), (.int .i64 0), (.int .i64 0), (.int .i64 0), (.int .i64 0), (.int .i64 0)], none, (some 5), []⟩,
  ⟨.store 10 (.tmp 5) (.tmp 15), none, none, [5, 15]⟩,
  ⟨.mv (.tmp 16), none, (some 6), [16]⟩]
def m6r4 : List MOper := [⟨.mv (.tmp 6), none, (some 17), [6]⟩,
  ⟨.un .not (.tmp 17), none, (some 18), [17]⟩]
def m6r5 : List MOper := [⟨.load (some 10) (.tmp 5), none, (some 19), [5]⟩,
  ⟨.load (some 10) (.tmp 2), none, (some 20), [2]⟩,
  ⟨.bin .eql (.flat [2, 0, 1, 1, 0, 0, 0, 0, 0, 0]) (.tmp 19) (.tmp 20), none, (some 21), [19, 20]⟩,
  ⟨.mv (.tmp 21), none, (some 22), [21]⟩,
  ⟨.call 10 [], (some (22, true)), (some 23), []⟩,
  ⟨.pick (.tmp 22) (.tmp 23) (.lit (.bool false)), none, (some 24), [22, 23]⟩,
  ⟨.mv (.tmp 24), none, (some 4), [24]⟩]
def m6r6 : List MOper := [⟨.load (some 10) (.tmp 5), none, (some 25), [5]⟩,
  ⟨.call 15 [(.tmp 25)], none, (some 26), [25]⟩,
  ⟨.un .not (.tmp 26), none, (some 27), [26]⟩,
  ⟨.mv (.tmp 27), none, (some 28), [27]⟩,
  ⟨.faddr 6 (.tmp 5), (some (28, false)), (some 29), [5]⟩,
  ⟨.load none (.tmp 29), (some (28, false)), (some 30), [29]⟩,
  ⟨.faddr 4 (.tmp 3), (some (28, false)), (some 31), [3]⟩,
  ⟨.load none (.tmp 31), (some (28, false)), (some 32), [31]⟩,
  ⟨.bin .neq .other (.tmp 30) (.tmp 32), (some (28, false)), (some 33), [30, 32]⟩,
  ⟨.pick (.tmp 28) (.lit (.bool true)) (.tmp 33), none, (some 34), [28, 33]⟩,
  ⟨.mv (.tmp 34), none, (some 35), [34]⟩,
  ⟨.faddr 0 (.tmp 5), (some (35, false)), (some 36), [5]⟩,
  ⟨.load none (.tmp 36), (some (35, false)), (some 37), [36]⟩,
  ⟨.faddr 1 (.tmp 3), (some (35, false)), (some 38), [3]⟩,
  ⟨.load none (.tmp 38), (some (35, false)), (some 39), [38]⟩,
  ⟨.bin .neq .other (.tmp 37) (.tmp 39), (some (35, false)), (some 40), [37, 39]⟩,
  ⟨.pick (.tmp 35) (.lit (.bool true)) (.tmp 40), none, (some 41), [35, 40]⟩,
  ⟨.mv (.tmp 41), none, (some 42), [41]⟩,
  ⟨.faddr 6 (.tmp 5), (some (42, false)), (some 43), [5]⟩,
  ⟨.load none (.tmp 43), (some (42, false)), (some 44), [43]⟩,
  ⟨.faddr 6 (.tmp 2), (some (42, false)), (some 45), [2]⟩,
  ⟨.load none (.tmp 45), (some (42, false)), (some 46), [45]⟩,
  ⟨.bin .lss .other (.tmp 44) (.tmp 46), (some (42, false)), (some 47), [44, 46]⟩,
  ⟨.pick (.tmp 42) (.lit (.bool true)) (.tmp 47), none, (some 48), [42, 47]⟩]
def m6r7 : List MOper := [⟨.mv (.lit (.bool false)), none, (some 4), []⟩]
def m6r8 : List MOper := [⟨.faddr 1 (.tmp 2), none, (some 49), [2]⟩,
  ⟨.load none (.tmp 49), none, (some 50), [49]⟩,
  ⟨.bin .eql .other (.tmp 50) (.lit (.int .u8 0)), none, (some 51), [50]⟩]
def m6r9 : List MOper := [⟨.faddr 7 (.tmp 5), none, (some 52), [5]⟩,
  ⟨.load none (.tmp 52), none, (some 53), [52]⟩,
  ⟨.bin .eql .other (.tmp 53) (.lit (.int .i64 (-1))), none, (some 54), [53]⟩,
  ⟨.mv (.tmp 54), none, (some 55), [54]⟩,
  ⟨.call 10 [], (some (55, true)), (some 56), []⟩,
  ⟨.pick (.tmp 55) (.tmp 56) (.lit (.bool false)), none, (some 57), [55, 56]⟩,
  ⟨.mv (.tmp 57), none, (some 4), [57]⟩]
def m6r10 : List MOper := [⟨.faddr 7 (.tmp 5), none, (some 58), [5]⟩,
  ⟨.load none (.tmp 58), none, (some 59), [58]⟩,
  ⟨.faddr 7 (.tmp 2), none, (some 60), [2]⟩,
  ⟨.load none (.tmp 60), none, (some 61), [60]⟩,
  ⟨.bin .eql .other (.tmp 59) (.tmp 61), none, (some 62), [59, 61]⟩,
  ⟨.mv (.tmp 62), none, (some 63), [62]⟩,
  ⟨.faddr 7 (.tmp 2), (some (63, false)), (some 64), [2]⟩,
  ⟨.load none (.tmp 64), (some (63, false)), (some 65), [64]⟩,
  ⟨.bin .eql .other (.tmp 65) (.lit (.int .i64 (-1))), (some (63, false)), (some 66), [65]⟩,
  ⟨.mv (.tmp 66), (some (63, false)), (some 67), [66]⟩,
  ⟨.faddr 7 (.tmp 5), (some (67, true)), (some 68), [5]⟩,
  ⟨.load none (.tmp 68), (some (67, true)), (some 69), [68]⟩,
  ⟨.faddr 4 (.tmp 3), (some (67, true)), (some 70), [3]⟩,
  ⟨.load none (.tmp 70), (some (67, true)), (some 71), [70]⟩,
  ⟨.bin .eql .other (.tmp 69) (.tmp 71), (some (67, true)), (some 72), [69, 71]⟩,
  ⟨.pick (.tmp 67) (.tmp 72) (.lit (.bool false)), (some (63, false)), (some 73), [67, 72]⟩,
  ⟨.pick (.tmp 63) (.lit (.bool true)) (.tmp 73), none, (some 74), [63, 73]⟩,
  ⟨.mv (.tmp 74), none, (some 75), [74]⟩,
  ⟨.faddr 5 (.tmp 5), (some (75, true)), (some 76), [5]⟩,
  ⟨.load none (.tmp 76), (some (75, true)), (some 77), [76]⟩,
  ⟨.faddr 5 (.tmp 2), (some (75, true)), (some 78), [2]⟩,
  ⟨.load none (.tmp 78), (some (75, true)), (some 79), [78]⟩,
  ⟨.bin .eql .other (.tmp 77) (.tmp 79), (some (75, true)), (some 80), [77, 79]⟩,
  ⟨.pick (.tmp 75) (.tmp 80) (.lit (.bool false)), none, (some 81), [75, 80]⟩,
  ⟨.mv (.tmp 81), none, (some 82), [81]⟩,
  ⟨.faddr 9 (.tmp 5), (some (82, true)), (some 83), [5]⟩,
  ⟨.load none (.tmp 83), (some (82, true)), (some 84), [83]⟩,
  ⟨.faddr 9 (.tmp 2), (some (82, true)), (some 85), [2]⟩,
  ⟨.load none (.tmp 85), (some (82, true)), (some 86), [85]⟩,
  ⟨.bin .geq .other (.tmp 84) (.tmp 86), (some (82, true)), (some 87), [84, 86]⟩,
  ⟨.pick (.tmp 82) (.tmp 87) (.lit (.bool false)), none, (some 88), [82, 87]⟩,
  ⟨.mv (.tmp 88), none, (some 89), [88]⟩,
  ⟨.call 10 [], (some (89, true)), (some 90), []⟩,
  ⟨.pick (.tmp 89) (.tmp 90) (.lit (.bool false)), none, (some 91), [89, 90]⟩,
  ⟨.mv (.tmp 91), none, (some 4), [91]⟩]
def m6 : MFunc := ⟨92, [.tmp 4],
  (.seq (.region m6r0 [2, 3])
  (.seq (.seq (.region m6r1 [2, 3, 9])
  (.cond (.tmp 9)
  (.seq (.region m6r2 [4])
  .ret)
  .skip))
  (.seq (.region m6r3 [2, 3, 5, 6])
  (.seq (.seq (.region m6r4 [2, 3, 5, 18])
  (.cond (.tmp 18)
  (.seq (.region m6r5 [4])
  .ret)
  .skip))
  (.seq (.seq (.region m6r6 [2, 3, 5, 48])
  (.cond (.tmp 48)
  (.seq (.region m6r7 [4])
  .ret)
  .skip))
  (.seq (.seq (.region m6r8 [2, 3, 5, 51])
  (.cond (.tmp 51)
  (.seq (.region m6r9 [4])
  .ret)
  .skip))
  (.seq (.region m6r10 [4])
  .ret)))))))⟩
def h6 : List RH := [⟨[2, 3], 0, false, []⟩, ⟨[2, 3, 9], 0, false, []⟩, ⟨[4], 0, false, []⟩, ⟨[2, 3, 5, 6], 0, false, []⟩, ⟨[2, 3, 5, 18], 0, false, []⟩, ⟨[4], 0, false, []⟩, ⟨[2, 3, 5, 48], 0, false, []⟩, ⟨[4], 0, false, []⟩, ⟨[2, 3, 5, 51], 0, false, []⟩, ⟨[4], 0, false, []⟩, ⟨[4], 0, false, []⟩]
theorem m6_ok : cmpFn Try.prog 6 h6 = some m6 := by kernel_rfl

/- dialtone/callmodel.Run -/
def m7r0 : List MOper := [⟨.mv (.lit .nils), none, (some 2), []⟩,
  ⟨.mv (.lit .nils), none, (some 3), []⟩]
def m7r1 : List MOper := [⟨.mkmap, none, (some 16), []⟩,
  ⟨.mv (.tmp 16), none, (some 4), [16]⟩]
def m7r2 : List MOper := [⟨.mv (.lit .nils), none, (some 5), []⟩]
def m7r3 : List MOper := [⟨.mv (.lit .nils), none, (some 6), []⟩]
def m7r4 : List MOper := [⟨.mv (.tmp 0), none, (some 17), [0]⟩,
  ⟨.len 1 (.tmp 17), none, (some 18), [17]⟩,
  ⟨.mv (.lit (.int .i64 0)), none, (some 19), []⟩]
def m7r5 : List MOper := [⟨.bin .lss .other (.tmp 19) (.tmp 18), none, (some 20), [19, 18]⟩]
def m7r6 : List MOper := [⟨.mv (.tmp 19), none, (some 21), [19]⟩,
  ⟨.iaddr 5 (.tmp 17) (.tmp 19), none, (some 22), [17, 19]⟩,
  ⟨.load (some 5) (.tmp 22), none, (some 23), [22]⟩,
  ⟨.zbox [(.int .u8 0), (.str []), (.int .i64 0), (.int .i64 0), (.int .i64 0)], none, (some 8), []⟩,
  ⟨.mv (.tmp 21), none, (some 7), [21]⟩,
  ⟨.store 5 (.tmp 8) (.tmp 23), none, none, [8, 23]⟩]
def m7r7 : List MOper := [⟨.mv (.tmp 4), none, (some 25), [4]⟩,
  ⟨.faddr 1 (.tmp 8), none, (some 26), [8]⟩,
  ⟨.load none (.tmp 26), none, (some 27), [26]⟩,
  ⟨.look 2 (.agg [(.str []), (.int .u8 0), (.bool false), (.bool false), (.int .i64 0), (.int .i64 0), (.int .i64 0), (.int .i64 0), (.int .i64 0), (.int .i64 0)]) false (.tmp 25) (.tmp 27), none, (some 28), [25, 27]⟩,
  ⟨.load (some 5) (.tmp 8), none, (some 29), [8]⟩,
  ⟨.call 9 [(.tmp 28), (.tmp 29)], none, (some 30), [28, 29]⟩,
  ⟨.mv (.tmp 30), none, (some 24), [30]⟩,
  ⟨.ext 0 (.tmp 24), none, (some 31), [24]⟩,
  ⟨.ext 1 (.tmp 24), none, (some 32), [24]⟩,
  ⟨.zbox [(.str []), (.int .u8 0), (.bool false), (.bool false), (.int .i64 0), (.int .i64 0), (.int .i64 0), (.int .i64 0), (.int .i64 0), (.int .i64 0)], none, (some 9), []⟩,
  ⟨.store 10 (.tmp 9) (.tmp 31), none, none, [9, 31]⟩,
  ⟨.mv (.tmp 32), none, (some 10), [32]⟩]
def m7r8 : List MOper := [⟨.mv (.tmp 10), none, (some 33), [10]⟩,
  ⟨.un .not (.tmp 33), none, (some 34), [33]⟩]
def m7r9 : List MOper := [⟨.mv (.tmp 6), none, (some 35), [6]⟩,
  ⟨.mv (.tmp 7), none, (some 36), [7]⟩,
  ⟨.mkfrz [(.int .i64 0)] 1 [(0, (.tmp 36))], none, (some 37), [36]⟩,
  ⟨.append 1 8 (.tmp 35) (.tmp 37), none, (some 38), [35, 37]⟩,
  ⟨.mv (.tmp 38), none, (some 6), [38]⟩]
def m7r10 : List MOper := [⟨.mv (.tmp 4), none, (some 40), [4]⟩,
  ⟨.faddr 1 (.tmp 8), none, (some 41), [8]⟩,
  ⟨.load none (.tmp 41), none, (some 42), [41]⟩,
  ⟨.look 2 (.agg [(.str []), (.int .u8 0), (.bool false), (.bool false), (.int .i64 0), (.int .i64 0), (.int .i64 0), (.int .i64 0), (.int .i64 0), (.int .i64 0)]) true (.tmp 40) (.tmp 42), none, (some 43), [40, 42]⟩,
  ⟨.mv (.tmp 43), none, (some 39), [43]⟩,
  ⟨.ext 0 (.tmp 39), none, (some 44), [39]⟩,
  ⟨.ext 1 (.tmp 39), none, (some 45), [39]⟩,
  ⟨.zbox [(.str []), (.int .u8 0), (.bool false), (.bool false), (.int .i64 0), (.int .i64 0), (.int .i64 0), (.int .i64 0), (.int .i64 0), (.int .i64 0)], none, (some 11), []⟩,
  ⟨.store 10 (.tmp 11) (.tmp 44), none, none, [11, 44]⟩,
  ⟨.mv (.tmp 45), none, (some 12), [45]⟩]
def m7r11 : List MOper := [⟨.mv (.tmp 12), none, (some 46), [12]⟩,
  ⟨.un .not (.tmp 46), none, (some 47), [46]⟩]
def m7r12 : List MOper := [⟨.mv (.tmp 5), none, (some 48), [5]⟩,
  ⟨.faddr 1 (.tmp 8), none, (some 49), [8]⟩,
  ⟨.load none (.tmp 49), none, (some 50), [49]⟩,
  ⟨.mkfrz [(.str [])] 1 [(0, (.tmp 50))], none, (some 51), [50]⟩,
  ⟨.append 1 16 (.tmp 48) (.tmp 51), none, (some 52), [48, 51]⟩,
  ⟨.mv (.tmp 52), none, (some 5), [52]⟩]
def m7r13 : List MOper := [⟨.mv (.tmp 4), none, (some 53), [4]⟩,
  ⟨.faddr 1 (.tmp 8), none, (some 54), [8]⟩,
  ⟨.load none (.tmp 54), none, (some 55), [54]⟩,
  ⟨.load (some 10) (.tmp 9), none, (some 56), [9]⟩,
  ⟨.mupd 2 (.tmp 53) (.tmp 55) (.tmp 56), none, none, [53, 55, 56]⟩]
def m7r14 : List MOper := [⟨.bin .add .other (.tmp 19) (.lit (.int .i64 1)), none, (some 57), [19]⟩,
  ⟨.mv (.tmp 57), none, (some 19), [57]⟩]
def m7l15 : MCode := (.seq (.region m7r5 [4, 5, 6, 17, 18, 19, 20])
  (.seq (.cond (.tmp 20)
  .skip
  (.exit 0))
  (.seq (.block 1 (.seq (.region m7r6 [4, 5, 6, 7, 8, 17, 18, 19])
  (.seq (.region m7r7 [4, 5, 6, 7, 8, 9, 10, 17, 18, 19])
  (.seq (.seq (.region m7r8 [4, 5, 6, 7, 8, 9, 17, 18, 19, 34])
  (.cond (.tmp 34)
  (.seq (.region m7r9 [4, 5, 6, 17, 18, 19])
  (.exit 1))
  .skip))
  (.seq (.seq (.region m7r10 [4, 5, 6, 8, 9, 12, 17, 18, 19])
  (.seq (.region m7r11 [4, 5, 6, 8, 9, 17, 18, 19, 47])
  (.cond (.tmp 47)
  (.region m7r12 [4, 5, 6, 8, 9, 17, 18, 19])
  .skip)))
  (.region m7r13 [4, 5, 6, 17, 18, 19]))))))
  (.region m7r14 [4, 5, 6, 17, 18, 19]))))
def m7r16 : List MOper := [⟨.mv (.tmp 5), none, (some 58), [5]⟩,
  ⟨.call 17 [(.tmp 58), (.lit (.func 18 [] []))], none, (some 59), [58]⟩]
def m7r17 : List MOper := [⟨.mv (.lit .nils), none, (some 13), []⟩]
def m7r18 : List MOper := [⟨.mv (.tmp 5), none, (some 60), [5]⟩,
  ⟨.len 1 (.tmp 60), none, (some 61), [60]⟩,
  ⟨.mv (.lit (.int .i64 0)), none, (some 62), []⟩]
def m7r19 : List MOper := [⟨.bin .lss .other (.tmp 62) (.tmp 61), none, (some 63), [62, 61]⟩]
def m7r20 : List MOper := [⟨.iaddr 1 (.tmp 60) (.tmp 62), none, (some 64), [60, 62]⟩,
  ⟨.load none (.tmp 64), none, (some 65), [64]⟩,
  ⟨.mv (.tmp 65), none, (some 15), [65]⟩]
def m7r21 : List MOper := [⟨.mv (.tmp 13), none, (some 66), [13]⟩,
  ⟨.mv (.tmp 4), none, (some 67), [4]⟩,
  ⟨.mv (.tmp 15), none, (some 68), [15]⟩,
  ⟨.look 2 (.agg [(.str []), (.int .u8 0), (.bool false), (.bool false), (.int .i64 0), (.int .i64 0), (.int .i64 0), (.int .i64 0), (.int .i64 0), (.int .i64 0)]) false (.tmp 67) (.tmp 68), none, (some 69), [67, 68]⟩,
  ⟨.mkfrz [(.str []), (.int .u8 0), (.bool false), (.bool false), (.int .i64 0), (.int .i64 0), (.int .i64 0), (.int .i64 0), (.int .i64 0), (.int .i64 0)] 1 [(0, (.tmp 69))], none, (some 70), [69]⟩,
  ⟨.append 10 72 (.tmp 66) (.tmp 70), none, (some 71), [66, 70]⟩,
  ⟨.mv (.tmp 71), none, (some 13), [71]⟩]
def m7r22 : List MOper := [⟨.bin .add .other (.tmp 62) (.lit (.int .i64 1)), none, (some 72), [62]⟩,
  ⟨.mv (.tmp 72), none, (some 62), [72]⟩]
def m7l23 : MCode := (.seq (.region m7r19 [4, 6, 13, 60, 61, 62, 63])
  (.seq (.cond (.tmp 63)
  .skip
  (.exit 2))
  (.seq (.block 3 (.seq (.region m7r20 [4, 6, 13, 15, 60, 61, 62])
  (.region m7r21 [4, 6, 13, 60, 61, 62])))
  (.region m7r22 [4, 6, 13, 60, 61, 62]))))
def m7r24 : List MOper := [⟨.mv (.tmp 13), none, (some 73), [13]⟩,
  ⟨.mv (.tmp 6), none, (some 74), [6]⟩,
  ⟨.mv (.tmp 73), none, (some 2), [73]⟩,
  ⟨.mv (.tmp 74), none, (some 3), [74]⟩]
def m7 : MFunc := ⟨75, [.tmp 2, .tmp 3],
  (.seq (.region m7r0 [0])
  (.seq (.region m7r1 [0, 4])
  (.seq (.region m7r2 [0, 4, 5])
  (.seq (.region m7r3 [0, 4, 5, 6])
  (.seq (.seq (.region m7r4 [4, 5, 6, 17, 18, 19])
  (.block 0 (.loop [4, 5, 6, 17, 18, 19] m7l15)))
  (.seq (.region m7r16 [4, 5, 6])
  (.seq (.region m7r17 [4, 5, 6, 13])
  (.seq (.seq (.region m7r18 [4, 6, 13, 60, 61, 62])
  (.block 2 (.loop [4, 6, 13, 60, 61, 62] m7l23)))
  (.seq (.region m7r24 [2, 3])
  .ret)))))))))⟩
def h7 : List RH := [⟨[0], 0, false, []⟩, ⟨[0, 4], 0, false, []⟩, ⟨[0, 4, 5], 0, false, []⟩, ⟨[0, 4, 5, 6], 0, false, []⟩, ⟨[4, 5, 6, 17, 18, 19], 0, false, []⟩, ⟨[4, 5, 6, 17, 18, 19], 0, false, []⟩, ⟨[4, 5, 6, 17, 18, 19, 20], 0, false, []⟩, ⟨[4, 5, 6, 7, 8, 17, 18, 19], 0, false, []⟩, ⟨[4, 5, 6, 7, 8, 9, 10, 17, 18, 19], 0, false, []⟩, ⟨[4, 5, 6, 7, 8, 9, 17, 18, 19, 34], 0, false, []⟩, ⟨[4, 5, 6, 17, 18, 19], 0, false, []⟩, ⟨[4, 5, 6, 8, 9, 12, 17, 18, 19], 0, false, []⟩, ⟨[4, 5, 6, 8, 9, 17, 18, 19, 47], 0, false, []⟩, ⟨[4, 5, 6, 8, 9, 17, 18, 19], 0, false, []⟩, ⟨[4, 5, 6, 17, 18, 19], 0, false, []⟩, ⟨[4, 5, 6, 17, 18, 19], 0, false, []⟩, ⟨[4, 5, 6], 0, false, []⟩, ⟨[4, 5, 6, 13], 0, false, []⟩, ⟨[4, 6, 13, 60, 61, 62], 0, false, []⟩, ⟨[4, 6, 13, 60, 61, 62], 0, false, []⟩, ⟨[4, 6, 13, 60, 61, 62, 63], 0, false, []⟩, ⟨[4, 6, 13, 15, 60, 61, 62], 0, false, []⟩, ⟨[4, 6, 13, 60, 61, 62], 0, false, []⟩, ⟨[4, 6, 13, 60, 61, 62], 0, false, []⟩, ⟨[2, 3], 0, false, []⟩]
theorem m7_ok : cmpFn Try.prog 7 h7 = some m7 := by kernel_rfl

/- dialtone/callmodel.Span -/
def m8r0 : List MOper := [⟨.box 10 (.tmp 0), none, (some 2), [0]⟩,
  ⟨.mv (.lit (.int .i64 0)), none, (some 4), []⟩]
def m8r1 : List MOper := [⟨.faddr 7 (.tmp 2), none, (some 6), [2]⟩,
  ⟨.load none (.tmp 6), none, (some 7), [6]⟩,
  ⟨.bin .lss .other (.tmp 7) (.lit (.int .i64 0)), none, (some 8), [7]⟩]
def m8r2 : List MOper := [⟨.mv (.lit (.int .i64 0)), none, (some 4), []⟩]
def m8r3 : List MOper := [⟨.mv (.tmp 1), none, (some 9), [1]⟩,
  ⟨.mv (.tmp 9), none, (some 5), [9]⟩]
def m8r4 : List MOper := [⟨.faddr 1 (.tmp 2), none, (some 10), [2]⟩,
  ⟨.load none (.tmp 10), none, (some 11), [10]⟩,
  ⟨.bin .eql .other (.tmp 11) (.lit (.int .u8 8)), none, (some 12), [11]⟩]
def m8r5 : List MOper := [⟨.mv (.tmp 1), none, (some 13), [1]⟩,
  ⟨.faddr 8 (.tmp 2), none, (some 14), [2]⟩,
  ⟨.load none (.tmp 14), none, (some 15), [14]⟩,
  ⟨.minmax false (.tmp 13) [(.tmp 15)], none, (some 16), [13, 15]⟩,
  ⟨.mv (.tmp 16), none, (some 5), [16]⟩]
def m8r6 : List MOper := [⟨.mv (.tmp 5), none, (some 17), [5]⟩,
  ⟨.faddr 7 (.tmp 2), none, (some 18), [2]⟩,
  ⟨.load none (.tmp 18), none, (some 19), [18]⟩,
  ⟨.minmax true (.tmp 17) [(.tmp 19)], none, (some 20), [17, 19]⟩,
  ⟨.faddr 7 (.tmp 2), none, (some 21), [2]⟩,
  ⟨.load none (.tmp 21), none, (some 22), [21]⟩,
  ⟨.bin .sub .other (.tmp 20) (.tmp 22), none, (some 23), [20, 22]⟩,
  ⟨.minmax true (.lit (.int .i64 0)) [(.tmp 23)], none, (some 24), [23]⟩,
  ⟨.mv (.tmp 24), none, (some 4), [24]⟩]
def m8 : MFunc := ⟨25, [.tmp 4],
  (.seq (.region m8r0 [1, 2])
  (.seq (.seq (.region m8r1 [1, 2, 8])
  (.cond (.tmp 8)
  (.seq (.region m8r2 [4])
  .ret)
  .skip))
  (.seq (.region m8r3 [1, 2, 5])
  (.seq (.seq (.region m8r4 [1, 2, 5, 12])
  (.cond (.tmp 12)
  (.region m8r5 [2, 5])
  .skip))
  (.seq (.region m8r6 [4])
  .ret)))))⟩
def h8 : List RH := [⟨[1, 2], 0, false, []⟩, ⟨[1, 2, 8], 0, false, []⟩, ⟨[4], 0, false, []⟩, ⟨[1, 2, 5], 0, false, []⟩, ⟨[1, 2, 5, 12], 0, false, []⟩, ⟨[2, 5], 0, false, []⟩, ⟨[4], 0, false, []⟩]
theorem m8_ok : cmpFn Try.prog 8 h8 = some m8 := by kernel_rfl

/- dialtone/callmodel.Apply -/
def m9r0 : List MOper := [⟨.box 10 (.tmp 0), none, (some 2), [0]⟩,
  ⟨.box 5 (.tmp 1), none, (some 3), [1]⟩,
  ⟨.zbox [(.str []), (.int .u8 0), (.bool false), (.bool false), (.int .i64 0), (.int .i64 0), (.int .i64 0), (.int .i64 0), (.int .i64 0), (.int .i64 0)], none, (some 4), []⟩,
  ⟨.mv (.lit (.bool false)), none, (some 5), []⟩]
def m9r1 : List MOper := [⟨.load (some 5) (.tmp 3), none, (some 6), [3]⟩,
  ⟨.call 20 [(.tmp 6)], none, (some 7), [6]⟩,
  ⟨.un .not (.tmp 7), none, (some 8), [7]⟩]
def m9r2 : List MOper := [⟨.load (some 10) (.tmp 2), none, (some 9), [2]⟩,
  ⟨.store 10 (.tmp 4) (.tmp 9), none, none, [4, 9]⟩,
  ⟨.mv (.lit (.bool false)), none, (some 5), []⟩]
def m9r3 : List MOper := [⟨.faddr 0 (.tmp 3), none, (some 10), [3]⟩,
  ⟨.load none (.tmp 10), none, (some 11), [10]⟩,
  ⟨.bin .eql .other (.tmp 11) (.lit (.int .u8 1)), none, (some 12), [11]⟩]
def m9r4 : List MOper := [⟨.load (some 10) (.tmp 2), none, (some 13), [2]⟩,
  ⟨.build [(.str []), (.int .u8 0), (.bool false), (.bool false), (.int .i64 0), (.int .i64 0), (.int .i64 0), (.int .i64 0), (.int .i64 0), (.int .i64 0)] [], none, (some 14), []⟩,
  ⟨.bin .neq (.flat [2, 0, 1, 1, 0, 0, 0, 0, 0, 0]) (.tmp 13) (.tmp 14), none, (some 15), [13, 14]⟩]
def m9r5 : List MOper := [⟨.load (some 10) (.tmp 2), none, (some 16), [2]⟩,
  ⟨.store 10 (.tmp 4) (.tmp 16), none, none, [4, 16]⟩,
  ⟨.mv (.lit (.bool false)), none, (some 5), []⟩]
def m9r6 : List MOper := [⟨.faddr 1 (.tmp 3), none, (some 17), [3]⟩,
  ⟨.load none (.tmp 17), none, (some 18), [17]⟩,
  ⟨.faddr 4 (.tmp 3), none, (some 19), [3]⟩,
  ⟨.load none (.tmp 19), none, (some 20), [19]⟩,
  ⟨.faddr 4 (.tmp 3), none, (some 21), [3]⟩,
  ⟨.load none (.tmp 21), none, (some 22), [21]⟩,
  ⟨.build [(.str []), (.int .u8 0), (.bool false), (.bool false), (.int .i64 0), (.int .i64 0), (.int .i64 0), (.int .i64 0), (.int .i64 0), (.int .i64 0)] [(0, 1, (.tmp 18)), (1, 1, (.lit (.int .u8 1))), (5, 1, (.tmp 20)), (6, 1, (.tmp 22)), (7, 1, (.lit (.int .i64 (-1)))), (8, 1, (.lit (.int .i64 (-1))))], none, (some 23), [18, 20, 22]⟩,
  ⟨.store 10 (.tmp 4) (.tmp 23), none, none, [4, 23]⟩,
  ⟨.mv (.lit (.bool true)), none, (some 5), []⟩]
def m9r7 : List MOper := [⟨.faddr 1 (.tmp 3), none, (some 24), [3]⟩,
  ⟨.load none (.tmp 24), none, (some 25), [24]⟩,
  ⟨.faddr 0 (.tmp 2), none, (some 26), [2]⟩,
  ⟨.load none (.tmp 26), none, (some 27), [26]⟩,
  ⟨.bin .neq .other (.tmp 25) (.tmp 27), none, (some 28), [25, 27]⟩,
  ⟨.mv (.tmp 28), none, (some 29), [28]⟩,
  ⟨.faddr 4 (.tmp 3), (some (29, false)), (some 30), [3]⟩,
  ⟨.load none (.tmp 30), (some (29, false)), (some 31), [30]⟩,
  ⟨.faddr 6 (.tmp 2), (some (29, false)), (some 32), [2]⟩,
  ⟨.load none (.tmp 32), (some (29, false)), (some 33), [32]⟩,
  ⟨.bin .lss .other (.tmp 31) (.tmp 33), (some (29, false)), (some 34), [31, 33]⟩,
  ⟨.pick (.tmp 29) (.lit (.bool true)) (.tmp 34), none, (some 35), [29, 34]⟩,
  ⟨.mv (.tmp 35), none, (some 36), [35]⟩,
  ⟨.load (some 10) (.tmp 2), (some (36, false)), (some 37), [2]⟩,
  ⟨.load (some 5) (.tmp 3), (some (36, false)), (some 38), [3]⟩,
  ⟨.call 21 [(.tmp 37), (.tmp 38)], (some (36, false)), (some 39), [37, 38]⟩,
  ⟨.un .not (.tmp 39), (some (36, false)), (some 40), [39]⟩,
  ⟨.pick (.tmp 36) (.lit (.bool true)) (.tmp 40), none, (some 41), [36, 40]⟩]
def m9r8 : List MOper := [⟨.load (some 10) (.tmp 2), none, (some 42), [2]⟩,
  ⟨.store 10 (.tmp 4) (.tmp 42), none, none, [4, 42]⟩,
  ⟨.mv (.lit (.bool false)), none, (some 5), []⟩]
def m9r9 : List MOper := [⟨.load (some 5) (.tmp 3), none, (some 43), [3]⟩,
  ⟨.call 22 [(.tmp 2), (.tmp 43)], none, (some 44), [2, 43]⟩]
def m9r10 : List MOper := [⟨.faddr 4 (.tmp 3), none, (some 45), [3]⟩,
  ⟨.load none (.tmp 45), none, (some 46), [45]⟩,
  ⟨.faddr 6 (.tmp 2), none, (some 47), [2]⟩,
  ⟨.store 1 (.tmp 47) (.tmp 46), none, none, [47, 46]⟩]
def m9r11 : List MOper := [⟨.load (some 10) (.tmp 2), none, (some 48), [2]⟩,
  ⟨.store 10 (.tmp 4) (.tmp 48), none, none, [4, 48]⟩,
  ⟨.mv (.lit (.bool true)), none, (some 5), []⟩]
def m9 : MFunc := ⟨49, [.cell 4 (some 10), .tmp 5],
  (.seq (.region m9r0 [2, 3, 4])
  (.seq (.seq (.region m9r1 [2, 3, 4, 8])
  (.cond (.tmp 8)
  (.seq (.region m9r2 [4, 5])
  .ret)
  .skip))
  (.seq (.seq (.region m9r3 [2, 3, 4, 12])
  (.cond (.tmp 12)
  (.seq (.seq (.region m9r4 [2, 3, 4, 15])
  (.cond (.tmp 15)
  (.seq (.region m9r5 [4, 5])
  .ret)
  .skip))
  (.seq (.region m9r6 [4, 5])
  .ret))
  .skip))
  (.seq (.seq (.region m9r7 [2, 3, 4, 41])
  (.cond (.tmp 41)
  (.seq (.region m9r8 [4, 5])
  .ret)
  .skip))
  (.seq (.region m9r9 [2, 3, 4])
  (.seq (.region m9r10 [2, 4])
  (.seq (.region m9r11 [4, 5])
  .ret)))))))⟩
def h9 : List RH := [⟨[2, 3, 4], 0, false, []⟩, ⟨[2, 3, 4, 8], 0, false, []⟩, ⟨[4, 5], 0, false, []⟩, ⟨[2, 3, 4, 12], 0, false, []⟩, ⟨[2, 3, 4, 15], 0, false, []⟩, ⟨[4, 5], 0, false, []⟩, ⟨[4, 5], 0, false, []⟩, ⟨[2, 3, 4, 41], 0, false, []⟩, ⟨[4, 5], 0, false, []⟩, ⟨[2, 3, 4], 0, false, []⟩, ⟨[2, 4], 0, false, []⟩, ⟨[4, 5], 0, false, []⟩]
theorem m9_ok : cmpFn Try.prog 9 h9 = some m9 := by kernel_rfl

/- dialtone/dialtonelaw33.events -/
def m11r0 : List MOper := [⟨.mv (.lit .nils), none, (some 2), []⟩]
def m11r1 : List MOper := [⟨.mv (.lit .nils), none, (some 3), []⟩]
def m11r2 : List MOper := [⟨.mv (.lit (.int .i64 0)), none, (some 4), []⟩]
def m11r3 : List MOper := [⟨.mv (.tmp 4), none, (some 5), [4]⟩,
  ⟨.mv (.tmp 0), none, (some 6), [0]⟩,
  ⟨.len 1 (.tmp 6), none, (some 7), [6]⟩,
  ⟨.bin .lss .other (.tmp 5) (.tmp 7), none, (some 8), [5, 7]⟩]
def m11r4 : List MOper := [⟨.mv (.tmp 3), none, (some 11), [3]⟩,
  ⟨.mv (.tmp 0), none, (some 12), [0]⟩,
  ⟨.mv (.tmp 4), none, (some 13), [4]⟩,
  ⟨.iaddr 1 (.tmp 12) (.tmp 13), none, (some 14), [12, 13]⟩,
  ⟨.load none (.tmp 14), none, (some 15), [14]⟩,
  ⟨.mv (.tmp 4), none, (some 16), [4]⟩,
  ⟨.bin .add .other (.tmp 16) (.lit (.int .i64 1)), none, (some 17), [16]⟩,
  ⟨.build [(.int .u8 0), (.str []), (.int .i64 0), (.int .i64 0), (.int .i64 0)] [(0, 1, (.tmp 15)), (1, 1, (.lit (.str [65]))), (4, 1, (.tmp 17))], none, (some 18), [15, 17]⟩,
  ⟨.mkfrz [(.int .u8 0), (.str []), (.int .i64 0), (.int .i64 0), (.int .i64 0)] 1 [(0, (.tmp 18))], none, (some 19), [18]⟩,
  ⟨.append 5 48 (.tmp 11) (.tmp 19), none, (some 20), [11, 19]⟩,
  ⟨.mv (.tmp 20), none, (some 3), [20]⟩]
def m11r5 : List MOper := [⟨.mv (.tmp 4), none, (some 9), [4]⟩,
  ⟨.bin .add .other (.tmp 9) (.lit (.int .i64 1)), none, (some 10), [9]⟩,
  ⟨.mv (.tmp 10), none, (some 4), [10]⟩]
def m11l6 : MCode := (.seq (.seq (.region m11r3 [0, 3, 4, 8])
  (.cond (.tmp 8)
  .skip
  (.exit 0)))
  (.seq (.block 1 (.region m11r4 [0, 3, 4]))
  (.region m11r5 [0, 3, 4])))
def m11r7 : List MOper := [⟨.mv (.tmp 3), none, (some 21), [3]⟩,
  ⟨.mv (.tmp 21), none, (some 2), [21]⟩]
def m11 : MFunc := ⟨22, [.tmp 2],
  (.seq (.region m11r0 [0])
  (.seq (.region m11r1 [0, 3])
  (.seq (.seq (.region m11r2 [0, 3, 4])
  (.block 0 (.loop [0, 3, 4] m11l6)))
  (.seq (.region m11r7 [2])
  .ret))))⟩
def h11 : List RH := [⟨[0], 0, false, []⟩, ⟨[0, 3], 0, false, []⟩, ⟨[0, 3, 4], 0, false, []⟩, ⟨[0, 3, 4], 0, false, []⟩, ⟨[0, 3, 4, 8], 0, false, []⟩, ⟨[0, 3, 4], 0, false, []⟩, ⟨[0, 3, 4], 0, false, []⟩, ⟨[2], 0, false, []⟩]
theorem m11_ok : cmpFn Try.prog 11 h11 = some m11 := by kernel_rfl

/- dialtone/dialtoneref33.Same -/
def m12r0 : List MOper := [⟨.mv (.lit (.bool false)), none, (some 4), []⟩]
def m12r1 : List MOper := [⟨.mv (.tmp 0), none, (some 6), [0]⟩,
  ⟨.len 1 (.tmp 6), none, (some 7), [6]⟩,
  ⟨.mv (.tmp 1), none, (some 8), [1]⟩,
  ⟨.len 1 (.tmp 8), none, (some 9), [8]⟩,
  ⟨.bin .neq .other (.tmp 7) (.tmp 9), none, (some 10), [7, 9]⟩]
def m12r2 : List MOper := [⟨.mv (.lit (.bool false)), none, (some 4), []⟩]
def m12r3 : List MOper := [⟨.mv (.lit (.int .i64 0)), none, (some 5), []⟩]
def m12r4 : List MOper := [⟨.mv (.tmp 5), none, (some 11), [5]⟩,
  ⟨.mv (.tmp 0), none, (some 12), [0]⟩,
  ⟨.len 1 (.tmp 12), none, (some 13), [12]⟩,
  ⟨.bin .lss .other (.tmp 11) (.tmp 13), none, (some 14), [11, 13]⟩]
def m12r5 : List MOper := [⟨.mv (.tmp 0), none, (some 17), [0]⟩,
  ⟨.mv (.tmp 5), none, (some 18), [5]⟩,
  ⟨.iaddr 10 (.tmp 17) (.tmp 18), none, (some 19), [17, 18]⟩,
  ⟨.load (some 10) (.tmp 19), none, (some 20), [19]⟩,
  ⟨.mv (.tmp 1), none, (some 21), [1]⟩,
  ⟨.mv (.tmp 5), none, (some 22), [5]⟩,
  ⟨.iaddr 10 (.tmp 21) (.tmp 22), none, (some 23), [21, 22]⟩,
  ⟨.load (some 10) (.tmp 23), none, (some 24), [23]⟩]
def m12r6 : List MOper := [⟨.bin .neq (.flat [2, 0, 1, 1, 0, 0, 0, 0, 0, 0]) (.tmp 20) (.tmp 24), none, (some 25), [20, 24]⟩]
def m12r7 : List MOper := [⟨.mv (.lit (.bool false)), none, (some 4), []⟩]
def m12r8 : List MOper := [⟨.mv (.tmp 5), none, (some 15), [5]⟩,
  ⟨.bin .add .other (.tmp 15) (.lit (.int .i64 1)), none, (some 16), [15]⟩,
  ⟨.mv (.tmp 16), none, (some 5), [16]⟩]
def m12l9 : MCode := (.seq (.seq (.region m12r4 [0, 1, 5, 14])
  (.cond (.tmp 14)
  .skip
  (.exit 0)))
  (.seq (.block 1 (.seq (.dregion m12r5 m12r6 [] [0, 1, 5, 25])
  (.cond (.tmp 25)
  (.seq (.region m12r7 [4])
  .ret)
  .skip)))
  (.region m12r8 [0, 1, 5])))
def m12r10 : List MOper := [⟨.mv (.lit (.bool true)), none, (some 4), []⟩]
def m12 : MFunc := ⟨26, [.tmp 4],
  (.seq (.region m12r0 [0, 1])
  (.seq (.seq (.region m12r1 [0, 1, 10])
  (.cond (.tmp 10)
  (.seq (.region m12r2 [4])
  .ret)
  .skip))
  (.seq (.seq (.region m12r3 [0, 1, 5])
  (.block 0 (.loop [0, 1, 5] m12l9)))
  (.seq (.region m12r10 [4])
  .ret))))⟩
def h12 : List RH := [⟨[0, 1], 0, false, []⟩, ⟨[0, 1, 10], 0, false, []⟩, ⟨[4], 0, false, []⟩, ⟨[0, 1, 5], 0, false, []⟩, ⟨[0, 1, 5], 0, false, []⟩, ⟨[0, 1, 5, 14], 0, false, []⟩, ⟨[0, 1, 5, 25], 8, false, []⟩, ⟨[4], 0, false, []⟩, ⟨[0, 1, 5], 0, false, []⟩, ⟨[4], 0, false, []⟩]
theorem m12_ok : cmpFn Try.prog 12 h12 = some m12 := by kernel_rfl

/- dialtone/dialtoneref33.Ints -/
def m13r0 : List MOper := [⟨.mv (.lit (.bool false)), none, (some 4), []⟩]
def m13r1 : List MOper := [⟨.mv (.tmp 0), none, (some 6), [0]⟩,
  ⟨.len 1 (.tmp 6), none, (some 7), [6]⟩,
  ⟨.mv (.tmp 1), none, (some 8), [1]⟩,
  ⟨.len 1 (.tmp 8), none, (some 9), [8]⟩,
  ⟨.bin .neq .other (.tmp 7) (.tmp 9), none, (some 10), [7, 9]⟩]
def m13r2 : List MOper := [⟨.mv (.lit (.bool false)), none, (some 4), []⟩]
def m13r3 : List MOper := [⟨.mv (.lit (.int .i64 0)), none, (some 5), []⟩]
def m13r4 : List MOper := [⟨.mv (.tmp 5), none, (some 11), [5]⟩,
  ⟨.mv (.tmp 0), none, (some 12), [0]⟩,
  ⟨.len 1 (.tmp 12), none, (some 13), [12]⟩,
  ⟨.bin .lss .other (.tmp 11) (.tmp 13), none, (some 14), [11, 13]⟩]
def m13r5 : List MOper := [⟨.mv (.tmp 0), none, (some 17), [0]⟩,
  ⟨.mv (.tmp 5), none, (some 18), [5]⟩,
  ⟨.iaddr 1 (.tmp 17) (.tmp 18), none, (some 19), [17, 18]⟩,
  ⟨.load none (.tmp 19), none, (some 20), [19]⟩,
  ⟨.mv (.tmp 1), none, (some 21), [1]⟩,
  ⟨.mv (.tmp 5), none, (some 22), [5]⟩,
  ⟨.iaddr 1 (.tmp 21) (.tmp 22), none, (some 23), [21, 22]⟩,
  ⟨.load none (.tmp 23), none, (some 24), [23]⟩]
def m13r6 : List MOper := [⟨.bin .neq .other (.tmp 20) (.tmp 24), none, (some 25), [20, 24]⟩]
def m13r7 : List MOper := [⟨.mv (.lit (.bool false)), none, (some 4), []⟩]
def m13r8 : List MOper := [⟨.mv (.tmp 5), none, (some 15), [5]⟩,
  ⟨.bin .add .other (.tmp 15) (.lit (.int .i64 1)), none, (some 16), [15]⟩,
  ⟨.mv (.tmp 16), none, (some 5), [16]⟩]
def m13l9 : MCode := (.seq (.seq (.region m13r4 [0, 1, 5, 14])
  (.cond (.tmp 14)
  .skip
  (.exit 0)))
  (.seq (.block 1 (.seq (.dregion m13r5 m13r6 [] [0, 1, 5, 25])
  (.cond (.tmp 25)
  (.seq (.region m13r7 [4])
  .ret)
  .skip)))
  (.region m13r8 [0, 1, 5])))
def m13r10 : List MOper := [⟨.mv (.lit (.bool true)), none, (some 4), []⟩]
def m13 : MFunc := ⟨26, [.tmp 4],
  (.seq (.region m13r0 [0, 1])
  (.seq (.seq (.region m13r1 [0, 1, 10])
  (.cond (.tmp 10)
  (.seq (.region m13r2 [4])
  .ret)
  .skip))
  (.seq (.seq (.region m13r3 [0, 1, 5])
  (.block 0 (.loop [0, 1, 5] m13l9)))
  (.seq (.region m13r10 [4])
  .ret))))⟩
def h13 : List RH := [⟨[0, 1], 0, false, []⟩, ⟨[0, 1, 10], 0, false, []⟩, ⟨[4], 0, false, []⟩, ⟨[0, 1, 5], 0, false, []⟩, ⟨[0, 1, 5], 0, false, []⟩, ⟨[0, 1, 5, 14], 0, false, []⟩, ⟨[0, 1, 5, 25], 8, false, []⟩, ⟨[4], 0, false, []⟩, ⟨[0, 1, 5], 0, false, []⟩, ⟨[4], 0, false, []⟩]
theorem m13_ok : cmpFn Try.prog 13 h13 = some m13 := by kernel_rfl

/- dialtone/dialtoneref33.Run -/
def m14r0 : List MOper := [⟨.mv (.lit .nils), none, (some 2), []⟩,
  ⟨.mv (.lit .nils), none, (some 3), []⟩]
def m14r1 : List MOper := [⟨.mv (.lit .nils), none, (some 4), []⟩]
def m14r2 : List MOper := [⟨.mv (.lit .nils), none, (some 5), []⟩]
def m14r3 : List MOper := [⟨.mv (.lit (.int .i64 0)), none, (some 6), []⟩]
def m14r4 : List MOper := [⟨.mv (.tmp 6), none, (some 14), [6]⟩,
  ⟨.mv (.tmp 0), none, (some 15), [0]⟩,
  ⟨.len 1 (.tmp 15), none, (some 16), [15]⟩,
  ⟨.bin .lss .other (.tmp 14) (.tmp 16), none, (some 17), [14, 16]⟩]
def m14r5 : List MOper := [⟨.mv (.tmp 4), none, (some 21), [4]⟩,
  ⟨.mv (.tmp 0), none, (some 22), [0]⟩,
  ⟨.mv (.tmp 6), none, (some 23), [6]⟩,
  ⟨.iaddr 5 (.tmp 22) (.tmp 23), none, (some 24), [22, 23]⟩,
  ⟨.faddr 1 (.tmp 24), none, (some 25), [24]⟩,
  ⟨.load none (.tmp 25), none, (some 26), [25]⟩,
  ⟨.call 23 [(.tmp 21), (.tmp 26)], none, (some 27), [21, 26]⟩,
  ⟨.mv (.tmp 27), none, (some 20), [27]⟩,
  ⟨.ext 0 (.tmp 20), none, (some 28), [20]⟩,
  ⟨.ext 1 (.tmp 20), none, (some 29), [20]⟩,
  ⟨.mv (.tmp 28), none, (some 7), [28]⟩,
  ⟨.mv (.tmp 29), none, (some 8), [29]⟩]
def m14r6 : List MOper := [⟨.mv (.tmp 8), none, (some 30), [8]⟩]
def m14r7 : List MOper := [⟨.mv (.tmp 4), none, (some 32), [4]⟩,
  ⟨.mv (.tmp 7), none, (some 33), [7]⟩,
  ⟨.iaddr 10 (.tmp 32) (.tmp 33), none, (some 34), [32, 33]⟩,
  ⟨.load (some 10) (.tmp 34), none, (some 35), [34]⟩,
  ⟨.mv (.tmp 0), none, (some 36), [0]⟩,
  ⟨.mv (.tmp 6), none, (some 37), [6]⟩,
  ⟨.iaddr 5 (.tmp 36) (.tmp 37), none, (some 38), [36, 37]⟩,
  ⟨.load (some 5) (.tmp 38), none, (some 39), [38]⟩,
  ⟨.call 24 [(.tmp 35), (.tmp 39)], none, (some 40), [35, 39]⟩,
  ⟨.mv (.tmp 40), none, (some 31), [40]⟩,
  ⟨.ext 0 (.tmp 31), none, (some 41), [31]⟩,
  ⟨.ext 1 (.tmp 31), none, (some 42), [31]⟩,
  ⟨.zbox [(.str []), (.int .u8 0), (.bool false), (.bool false), (.int .i64 0), (.int .i64 0), (.int .i64 0), (.int .i64 0), (.int .i64 0), (.int .i64 0)], none, (some 9), []⟩]
def m14r8 : List MOper := [⟨.store 10 (.tmp 9) (.tmp 41), none, none, [9, 41]⟩,
  ⟨.mv (.tmp 42), none, (some 10), [42]⟩]
def m14r9 : List MOper := [⟨.mv (.tmp 4), none, (some 43), [4]⟩,
  ⟨.mv (.tmp 7), none, (some 44), [7]⟩,
  ⟨.load (some 10) (.tmp 9), none, (some 45), [9]⟩,
  ⟨.iaddr 10 (.tmp 43) (.tmp 44), none, (some 46), [43, 44]⟩,
  ⟨.store 10 (.tmp 46) (.tmp 45), none, none, [46, 45]⟩]
def m14r10 : List MOper := [⟨.mv (.tmp 10), none, (some 47), [10]⟩,
  ⟨.un .not (.tmp 47), none, (some 48), [47]⟩]
def m14r11 : List MOper := [⟨.mv (.tmp 5), none, (some 49), [5]⟩,
  ⟨.mv (.tmp 6), none, (some 50), [6]⟩,
  ⟨.mkfrz [(.int .i64 0)] 1 [(0, (.tmp 50))], none, (some 51), [50]⟩,
  ⟨.append 1 8 (.tmp 49) (.tmp 51), none, (some 52), [49, 51]⟩,
  ⟨.mv (.tmp 52), none, (some 5), [52]⟩]
def m14r12 : List MOper := [⟨.build [(.str []), (.int .u8 0), (.bool false), (.bool false), (.int .i64 0), (.int .i64 0), (.int .i64 0), (.int .i64 0), (.int .i64 0), (.int .i64 0)] [], none, (some 54), []⟩,
  ⟨.mv (.tmp 0), none, (some 55), [0]⟩,
  ⟨.mv (.tmp 6), none, (some 56), [6]⟩,
  ⟨.iaddr 5 (.tmp 55) (.tmp 56), none, (some 57), [55, 56]⟩,
  ⟨.load (some 5) (.tmp 57), none, (some 58), [57]⟩,
  ⟨.call 24 [(.tmp 54), (.tmp 58)], none, (some 59), [54, 58]⟩,
  ⟨.mv (.tmp 59), none, (some 53), [59]⟩,
  ⟨.ext 0 (.tmp 53), none, (some 60), [53]⟩,
  ⟨.ext 1 (.tmp 53), none, (some 61), [53]⟩,
  ⟨.zbox [(.str []), (.int .u8 0), (.bool false), (.bool false), (.int .i64 0), (.int .i64 0), (.int .i64 0), (.int .i64 0), (.int .i64 0), (.int .i64 0)], none, (some 11), []⟩,
  ⟨.store 10 (.tmp 11) (.tmp 60), none, none, [11, 60]⟩,
  ⟨.mv (.tmp 61), none, (some 12), [61]⟩]
def m14r13 : List MOper := [⟨.mv (.tmp 12), none, (some 62), [12]⟩,
  ⟨.un .not (.tmp 62), none, (some 63), [62]⟩]
def m14r14 : List MOper := [⟨.mv (.tmp 5), none, (some 64), [5]⟩,
  ⟨.mv (.tmp 6), none, (some 65), [6]⟩,
  ⟨.mkfrz [(.int .i64 0)] 1 [(0, (.tmp 65))], none, (some 66), [65]⟩,
  ⟨.append 1 8 (.tmp 64) (.tmp 66), none, (some 67), [64, 66]⟩,
  ⟨.mv (.tmp 67), none, (some 5), [67]⟩]
def m14r15 : List MOper := [⟨.mv (.lit .nils), none, (some 13), []⟩]
def m14r16 : List MOper := [⟨.mv (.tmp 13), none, (some 68), [13]⟩,
  ⟨.mv (.tmp 4), none, (some 69), [4]⟩,
  ⟨.mv (.tmp 7), none, (some 70), [7]⟩,
  ⟨.slc 10 (.tmp 69) none (some (.tmp 70)) none, none, (some 71), [69, 70]⟩,
  ⟨.append 10 72 (.tmp 68) (.tmp 71), none, (some 72), [68, 71]⟩,
  ⟨.mv (.tmp 72), none, (some 13), [72]⟩]
def m14r17 : List MOper := [⟨.mv (.tmp 13), none, (some 73), [13]⟩,
  ⟨.load (some 10) (.tmp 11), none, (some 74), [11]⟩,
  ⟨.mkfrz [(.str []), (.int .u8 0), (.bool false), (.bool false), (.int .i64 0), (.int .i64 0), (.int .i64 0), (.int .i64 0), (.int .i64 0), (.int .i64 0)] 1 [(0, (.tmp 74))], none, (some 75), [74]⟩,
  ⟨.append 10 72 (.tmp 73) (.tmp 75), none, (some 76), [73, 75]⟩,
  ⟨.mv (.tmp 76), none, (some 13), [76]⟩]
def m14r18 : List MOper := [⟨.mv (.tmp 13), none, (some 77), [13]⟩,
  ⟨.mv (.tmp 4), none, (some 78), [4]⟩,
  ⟨.mv (.tmp 7), none, (some 79), [7]⟩,
  ⟨.slc 10 (.tmp 78) (some (.tmp 79)) none none, none, (some 80), [78, 79]⟩,
  ⟨.append 10 72 (.tmp 77) (.tmp 80), none, (some 81), [77, 80]⟩,
  ⟨.mv (.tmp 81), none, (some 4), [81]⟩]
def m14r19 : List MOper := [⟨.mv (.tmp 6), none, (some 18), [6]⟩,
  ⟨.bin .add .other (.tmp 18) (.lit (.int .i64 1)), none, (some 19), [18]⟩,
  ⟨.mv (.tmp 19), none, (some 6), [19]⟩]
def m14l20 : MCode := (.seq (.seq (.region m14r4 [0, 4, 5, 6, 17])
  (.cond (.tmp 17)
  .skip
  (.exit 0)))
  (.seq (.block 1 (.seq (.region m14r5 [0, 4, 5, 6, 7, 8])
  (.seq (.seq (.region m14r6 [0, 4, 5, 6, 7, 30])
  (.cond (.tmp 30)
  (.seq (.dregion m14r7 m14r8 [] [0, 4, 5, 6, 7, 9, 10])
  (.seq (.region m14r9 [0, 4, 5, 6, 10])
  (.seq (.seq (.region m14r10 [0, 4, 5, 6, 48])
  (.cond (.tmp 48)
  (.region m14r11 [0, 4, 5, 6])
  .skip))
  (.exit 1))))
  .skip))
  (.seq (.region m14r12 [0, 4, 5, 6, 7, 11, 12])
  (.seq (.seq (.region m14r13 [0, 4, 5, 6, 7, 11, 63])
  (.cond (.tmp 63)
  (.seq (.region m14r14 [0, 4, 5, 6])
  (.exit 1))
  .skip))
  (.seq (.region m14r15 [0, 4, 5, 6, 7, 11, 13])
  (.seq (.region m14r16 [0, 4, 5, 6, 7, 11, 13])
  (.seq (.region m14r17 [0, 4, 5, 6, 7, 13])
  (.region m14r18 [0, 4, 5, 6])))))))))
  (.region m14r19 [0, 4, 5, 6])))
def m14r21 : List MOper := [⟨.mv (.tmp 4), none, (some 82), [4]⟩,
  ⟨.mv (.tmp 5), none, (some 83), [5]⟩,
  ⟨.mv (.tmp 82), none, (some 2), [82]⟩,
  ⟨.mv (.tmp 83), none, (some 3), [83]⟩]
def m14 : MFunc := ⟨84, [.tmp 2, .tmp 3],
  (.seq (.region m14r0 [0])
  (.seq (.region m14r1 [0, 4])
  (.seq (.region m14r2 [0, 4, 5])
  (.seq (.seq (.region m14r3 [0, 4, 5, 6])
  (.block 0 (.loop [0, 4, 5, 6] m14l20)))
  (.seq (.region m14r21 [2, 3])
  .ret)))))⟩
def h14 : List RH := [⟨[0], 0, false, []⟩, ⟨[0, 4], 0, false, []⟩, ⟨[0, 4, 5], 0, false, []⟩, ⟨[0, 4, 5, 6], 0, false, []⟩, ⟨[0, 4, 5, 6], 0, false, []⟩, ⟨[0, 4, 5, 6, 17], 0, false, []⟩, ⟨[0, 4, 5, 6, 7, 8], 0, false, []⟩, ⟨[0, 4, 5, 6, 7, 30], 0, false, []⟩, ⟨[0, 4, 5, 6, 7, 9, 10], 13, false, []⟩, ⟨[0, 4, 5, 6, 10], 0, false, []⟩, ⟨[0, 4, 5, 6, 48], 0, false, []⟩, ⟨[0, 4, 5, 6], 0, false, []⟩, ⟨[0, 4, 5, 6, 7, 11, 12], 0, false, []⟩, ⟨[0, 4, 5, 6, 7, 11, 63], 0, false, []⟩, ⟨[0, 4, 5, 6], 0, false, []⟩, ⟨[0, 4, 5, 6, 7, 11, 13], 0, false, []⟩, ⟨[0, 4, 5, 6, 7, 11, 13], 0, false, []⟩, ⟨[0, 4, 5, 6, 7, 13], 0, false, []⟩, ⟨[0, 4, 5, 6], 0, false, []⟩, ⟨[0, 4, 5, 6], 0, false, []⟩, ⟨[2, 3], 0, false, []⟩]
theorem m14_ok : cmpFn Try.prog 14 h14 = some m14 := by kernel_rfl

/- dialtone/callmodel.Valid -/
def m15r0 : List MOper := [⟨.box 10 (.tmp 0), none, (some 1), [0]⟩,
  ⟨.mv (.lit (.bool false)), none, (some 2), []⟩]
def m15r1 : List MOper := [⟨.load (some 10) (.tmp 1), none, (some 4), [1]⟩,
  ⟨.build [(.str []), (.int .u8 0), (.bool false), (.bool false), (.int .i64 0), (.int .i64 0), (.int .i64 0), (.int .i64 0), (.int .i64 0), (.int .i64 0)] [], none, (some 5), []⟩,
  ⟨.bin .eql (.flat [2, 0, 1, 1, 0, 0, 0, 0, 0, 0]) (.tmp 4) (.tmp 5), none, (some 6), [4, 5]⟩]
def m15r2 : List MOper := [⟨.mv (.lit (.bool true)), none, (some 2), []⟩]
def m15r3 : List MOper := [⟨.faddr 0 (.tmp 1), none, (some 7), [1]⟩,
  ⟨.load none (.tmp 7), none, (some 8), [7]⟩,
  ⟨.bin .eql .other (.tmp 8) (.lit (.str [])), none, (some 9), [8]⟩,
  ⟨.mv (.tmp 9), none, (some 10), [9]⟩,
  ⟨.load (some 10) (.tmp 1), (some (10, false)), (some 11), [1]⟩,
  ⟨.call 25 [(.tmp 11)], (some (10, false)), (some 12), [11]⟩,
  ⟨.un .not (.tmp 12), (some (10, false)), (some 13), [12]⟩,
  ⟨.mv (.tmp 13), (some (10, false)), (some 14), [13]⟩,
  ⟨.faddr 1 (.tmp 1), (some (14, true)), (some 15), [1]⟩,
  ⟨.load none (.tmp 15), (some (14, true)), (some 16), [15]⟩,
  ⟨.bin .neq .other (.tmp 16) (.lit (.int .u8 8)), (some (14, true)), (some 17), [16]⟩,
  ⟨.pick (.tmp 14) (.tmp 17) (.lit (.bool false)), (some (10, false)), (some 18), [14, 17]⟩,
  ⟨.pick (.tmp 10) (.lit (.bool true)) (.tmp 18), none, (some 19), [10, 18]⟩,
  ⟨.mv (.tmp 19), none, (some 20), [19]⟩,
  ⟨.faddr 5 (.tmp 1), (some (20, false)), (some 21), [1]⟩,
  ⟨.load none (.tmp 21), (some (20, false)), (some 22), [21]⟩,
  ⟨.bin .lss .other (.tmp 22) (.lit (.int .i64 0)), (some (20, false)), (some 23), [22]⟩,
  ⟨.pick (.tmp 20) (.lit (.bool true)) (.tmp 23), none, (some 24), [20, 23]⟩,
  ⟨.mv (.tmp 24), none, (some 25), [24]⟩,
  ⟨.faddr 6 (.tmp 1), (some (25, false)), (some 26), [1]⟩,
  ⟨.load none (.tmp 26), (some (25, false)), (some 27), [26]⟩,
  ⟨.faddr 5 (.tmp 1), (some (25, false)), (some 28), [1]⟩,
  ⟨.load none (.tmp 28), (some (25, false)), (some 29), [28]⟩,
  ⟨.bin .lss .other (.tmp 27) (.tmp 29), (some (25, false)), (some 30), [27, 29]⟩,
  ⟨.pick (.tmp 25) (.lit (.bool true)) (.tmp 30), none, (some 31), [25, 30]⟩,
  ⟨.mv (.tmp 31), none, (some 32), [31]⟩,
  ⟨.faddr 6 (.tmp 1), (some (32, false)), (some 33), [1]⟩,
  ⟨.load none (.tmp 33), (some (32, false)), (some 34), [33]⟩,
  ⟨.bin .gtr .other (.tmp 34) (.lit (.int .i64 1099511627776)), (some (32, false)), (some 35), [34]⟩,
  ⟨.pick (.tmp 32) (.lit (.bool true)) (.tmp 35), none, (some 36), [32, 35]⟩,
  ⟨.mv (.tmp 36), none, (some 37), [36]⟩,
  ⟨.faddr 9 (.tmp 1), (some (37, false)), (some 38), [1]⟩,
  ⟨.load none (.tmp 38), (some (37, false)), (some 39), [38]⟩,
  ⟨.bin .lss .other (.tmp 39) (.lit (.int .i64 0)), (some (37, false)), (some 40), [39]⟩,
  ⟨.pick (.tmp 37) (.lit (.bool true)) (.tmp 40), none, (some 41), [37, 40]⟩,
  ⟨.mv (.tmp 41), none, (some 42), [41]⟩,
  ⟨.faddr 9 (.tmp 1), (some (42, false)), (some 43), [1]⟩,
  ⟨.load none (.tmp 43), (some (42, false)), (some 44), [43]⟩,
  ⟨.bin .gtr .other (.tmp 44) (.lit (.int .i64 2147483647)), (some (42, false)), (some 45), [44]⟩,
  ⟨.pick (.tmp 42) (.lit (.bool true)) (.tmp 45), none, (some 46), [42, 45]⟩]
def m15r4 : List MOper := [⟨.mv (.lit (.bool false)), none, (some 2), []⟩]
def m15r5 : List MOper := [⟨.faddr 7 (.tmp 1), none, (some 47), [1]⟩,
  ⟨.load none (.tmp 47), none, (some 48), [47]⟩,
  ⟨.bin .neq .other (.tmp 48) (.lit (.int .i64 (-1))), none, (some 49), [48]⟩,
  ⟨.mv (.tmp 49), none, (some 3), [49]⟩]
def m15r6 : List MOper := [⟨.mv (.tmp 3), none, (some 50), [3]⟩,
  ⟨.mv (.tmp 50), none, (some 51), [50]⟩,
  ⟨.faddr 7 (.tmp 1), (some (51, true)), (some 52), [1]⟩,
  ⟨.load none (.tmp 52), (some (51, true)), (some 53), [52]⟩,
  ⟨.faddr 5 (.tmp 1), (some (51, true)), (some 54), [1]⟩,
  ⟨.load none (.tmp 54), (some (51, true)), (some 55), [54]⟩,
  ⟨.bin .lss .other (.tmp 53) (.tmp 55), (some (51, true)), (some 56), [53, 55]⟩,
  ⟨.mv (.tmp 56), (some (51, true)), (some 57), [56]⟩,
  ⟨.faddr 7 (.tmp 1), (some (57, false)), (some 58), [1]⟩,
  ⟨.load none (.tmp 58), (some (57, false)), (some 59), [58]⟩,
  ⟨.faddr 6 (.tmp 1), (some (57, false)), (some 60), [1]⟩,
  ⟨.load none (.tmp 60), (some (57, false)), (some 61), [60]⟩,
  ⟨.bin .gtr .other (.tmp 59) (.tmp 61), (some (57, false)), (some 62), [59, 61]⟩,
  ⟨.pick (.tmp 57) (.lit (.bool true)) (.tmp 62), (some (51, true)), (some 63), [57, 62]⟩,
  ⟨.pick (.tmp 51) (.tmp 63) (.lit (.bool false)), none, (some 64), [51, 63]⟩]
def m15r7 : List MOper := [⟨.mv (.lit (.bool false)), none, (some 2), []⟩]
def m15r8 : List MOper := [⟨.faddr 2 (.tmp 1), none, (some 65), [1]⟩,
  ⟨.load (some 2) (.tmp 65), none, (some 66), [65]⟩,
  ⟨.build [(.bool false), (.bool false)] [], none, (some 67), []⟩,
  ⟨.bin .neq (.flat [1, 1]) (.tmp 66) (.tmp 67), none, (some 68), [66, 67]⟩,
  ⟨.mv (.tmp 68), none, (some 69), [68]⟩,
  ⟨.mv (.tmp 3), (some (69, true)), (some 70), [3]⟩,
  ⟨.un .not (.tmp 70), (some (69, true)), (some 71), [70]⟩,
  ⟨.mv (.tmp 71), (some (69, true)), (some 72), [71]⟩,
  ⟨.load (some 10) (.tmp 1), (some (72, false)), (some 73), [1]⟩,
  ⟨.mkfrz [(.int .u8 0)] 3 [(0, (.lit (.int .u8 3))), (1, (.lit (.int .u8 4))), (2, (.lit (.int .u8 8)))], (some (72, false)), (some 74), []⟩,
  ⟨.call 26 [(.tmp 73), (.tmp 74)], (some (72, false)), (some 75), [73, 74]⟩,
  ⟨.un .not (.tmp 75), (some (72, false)), (some 76), [75]⟩,
  ⟨.pick (.tmp 72) (.lit (.bool true)) (.tmp 76), (some (69, true)), (some 77), [72, 76]⟩,
  ⟨.pick (.tmp 69) (.tmp 77) (.lit (.bool false)), none, (some 78), [69, 77]⟩]
def m15r9 : List MOper := [⟨.mv (.lit (.bool false)), none, (some 2), []⟩]
def m15r10 : List MOper := [⟨.faddr 9 (.tmp 1), none, (some 79), [1]⟩,
  ⟨.load none (.tmp 79), none, (some 80), [79]⟩,
  ⟨.bin .gtr .other (.tmp 80) (.lit (.int .i64 0)), none, (some 81), [80]⟩,
  ⟨.mv (.tmp 81), none, (some 82), [81]⟩,
  ⟨.mv (.tmp 3), (some (82, true)), (some 83), [3]⟩,
  ⟨.un .not (.tmp 83), (some (82, true)), (some 84), [83]⟩,
  ⟨.mv (.tmp 84), (some (82, true)), (some 85), [84]⟩,
  ⟨.faddr 1 (.tmp 1), (some (85, false)), (some 86), [1]⟩,
  ⟨.load none (.tmp 86), (some (85, false)), (some 87), [86]⟩,
  ⟨.bin .eql .other (.tmp 87) (.lit (.int .u8 7)), (some (85, false)), (some 88), [87]⟩,
  ⟨.pick (.tmp 85) (.lit (.bool true)) (.tmp 88), (some (82, true)), (some 89), [85, 88]⟩,
  ⟨.pick (.tmp 82) (.tmp 89) (.lit (.bool false)), none, (some 90), [82, 89]⟩]
def m15r11 : List MOper := [⟨.mv (.lit (.bool false)), none, (some 2), []⟩]
def m15r12 : List MOper := [⟨.faddr 1 (.tmp 1), none, (some 91), [1]⟩,
  ⟨.load none (.tmp 91), none, (some 92), [91]⟩,
  ⟨.bin .neq .other (.tmp 92) (.lit (.int .u8 8)), none, (some 93), [92]⟩]
def m15r13 : List MOper := [⟨.mv (.tmp 3), none, (some 94), [3]⟩,
  ⟨.load (some 10) (.tmp 1), none, (some 95), [1]⟩,
  ⟨.call 27 [(.tmp 95)], none, (some 96), [95]⟩,
  ⟨.bin .neq .bool (.tmp 94) (.tmp 96), none, (some 97), [94, 96]⟩,
  ⟨.mv (.tmp 97), none, (some 98), [97]⟩,
  ⟨.faddr 8 (.tmp 1), (some (98, true)), (some 99), [1]⟩,
  ⟨.load none (.tmp 99), (some (98, true)), (some 100), [99]⟩,
  ⟨.bin .eql .other (.tmp 100) (.lit (.int .i64 (-1))), (some (98, true)), (some 101), [100]⟩,
  ⟨.pick (.tmp 98) (.tmp 101) (.lit (.bool false)), none, (some 102), [98, 101]⟩,
  ⟨.mv (.tmp 102), none, (some 103), [102]⟩,
  ⟨.faddr 4 (.tmp 1), (some (103, true)), (some 104), [1]⟩,
  ⟨.load none (.tmp 104), (some (103, true)), (some 105), [104]⟩,
  ⟨.bin .eql .other (.tmp 105) (.lit (.int .i64 0)), (some (103, true)), (some 106), [105]⟩,
  ⟨.pick (.tmp 103) (.tmp 106) (.lit (.bool false)), none, (some 107), [103, 106]⟩,
  ⟨.mv (.tmp 107), none, (some 2), [107]⟩]
def m15r14 : List MOper := [⟨.mv (.tmp 3), none, (some 108), [3]⟩]
def m15r15 : List MOper := [⟨.faddr 8 (.tmp 1), none, (some 109), [1]⟩,
  ⟨.load none (.tmp 109), none, (some 110), [109]⟩,
  ⟨.faddr 6 (.tmp 1), none, (some 111), [1]⟩,
  ⟨.load none (.tmp 111), none, (some 112), [111]⟩,
  ⟨.bin .eql .other (.tmp 110) (.tmp 112), none, (some 113), [110, 112]⟩,
  ⟨.mv (.tmp 113), none, (some 114), [113]⟩,
  ⟨.faddr 4 (.tmp 1), (some (114, true)), (some 115), [1]⟩,
  ⟨.load none (.tmp 115), (some (114, true)), (some 116), [115]⟩,
  ⟨.bin .eql .other (.tmp 116) (.lit (.int .i64 0)), (some (114, true)), (some 117), [116]⟩,
  ⟨.mv (.tmp 117), (some (114, true)), (some 118), [117]⟩,
  ⟨.faddr 4 (.tmp 1), (some (118, false)), (some 119), [1]⟩,
  ⟨.load none (.tmp 119), (some (118, false)), (some 120), [119]⟩,
  ⟨.bin .eql .other (.tmp 120) (.lit (.int .i64 408)), (some (118, false)), (some 121), [120]⟩,
  ⟨.pick (.tmp 118) (.lit (.bool true)) (.tmp 121), (some (114, true)), (some 122), [118, 121]⟩,
  ⟨.mv (.tmp 122), (some (114, true)), (some 123), [122]⟩,
  ⟨.faddr 4 (.tmp 1), (some (123, false)), (some 124), [1]⟩,
  ⟨.load none (.tmp 124), (some (123, false)), (some 125), [124]⟩,
  ⟨.bin .eql .other (.tmp 125) (.lit (.int .i64 500)), (some (123, false)), (some 126), [125]⟩,
  ⟨.pick (.tmp 123) (.lit (.bool true)) (.tmp 126), (some (114, true)), (some 127), [123, 126]⟩,
  ⟨.pick (.tmp 114) (.tmp 127) (.lit (.bool false)), none, (some 128), [114, 127]⟩,
  ⟨.mv (.tmp 128), none, (some 2), [128]⟩]
def m15r16 : List MOper := [⟨.faddr 8 (.tmp 1), none, (some 129), [1]⟩,
  ⟨.load none (.tmp 129), none, (some 130), [129]⟩,
  ⟨.faddr 6 (.tmp 1), none, (some 131), [1]⟩,
  ⟨.load none (.tmp 131), none, (some 132), [131]⟩,
  ⟨.bin .eql .other (.tmp 130) (.tmp 132), none, (some 133), [130, 132]⟩,
  ⟨.mv (.tmp 133), none, (some 134), [133]⟩,
  ⟨.faddr 4 (.tmp 1), (some (134, true)), (some 135), [1]⟩,
  ⟨.load none (.tmp 135), (some (134, true)), (some 136), [135]⟩,
  ⟨.bin .geq .other (.tmp 136) (.lit (.int .i64 300)), (some (134, true)), (some 137), [136]⟩,
  ⟨.pick (.tmp 134) (.tmp 137) (.lit (.bool false)), none, (some 138), [134, 137]⟩,
  ⟨.mv (.tmp 138), none, (some 139), [138]⟩,
  ⟨.faddr 4 (.tmp 1), (some (139, true)), (some 140), [1]⟩,
  ⟨.load none (.tmp 140), (some (139, true)), (some 141), [140]⟩,
  ⟨.bin .leq .other (.tmp 141) (.lit (.int .i64 699)), (some (139, true)), (some 142), [141]⟩,
  ⟨.pick (.tmp 139) (.tmp 142) (.lit (.bool false)), none, (some 143), [139, 142]⟩,
  ⟨.mv (.tmp 143), none, (some 2), [143]⟩]
def m15 : MFunc := ⟨144, [.tmp 2],
  (.seq (.region m15r0 [1])
  (.seq (.seq (.region m15r1 [1, 6])
  (.cond (.tmp 6)
  (.seq (.region m15r2 [2])
  .ret)
  .skip))
  (.seq (.seq (.region m15r3 [1, 46])
  (.cond (.tmp 46)
  (.seq (.region m15r4 [2])
  .ret)
  .skip))
  (.seq (.region m15r5 [1, 3])
  (.seq (.seq (.region m15r6 [1, 3, 64])
  (.cond (.tmp 64)
  (.seq (.region m15r7 [2])
  .ret)
  .skip))
  (.seq (.seq (.region m15r8 [1, 3, 78])
  (.cond (.tmp 78)
  (.seq (.region m15r9 [2])
  .ret)
  .skip))
  (.seq (.seq (.region m15r10 [1, 3, 90])
  (.cond (.tmp 90)
  (.seq (.region m15r11 [2])
  .ret)
  .skip))
  (.seq (.seq (.region m15r12 [1, 3, 93])
  (.cond (.tmp 93)
  (.seq (.region m15r13 [2])
  .ret)
  .skip))
  (.seq (.seq (.region m15r14 [1, 108])
  (.cond (.tmp 108)
  (.seq (.region m15r15 [2])
  .ret)
  .skip))
  (.seq (.region m15r16 [2])
  .ret))))))))))⟩
def h15 : List RH := [⟨[1], 0, false, []⟩, ⟨[1, 6], 0, false, []⟩, ⟨[2], 0, false, []⟩, ⟨[1, 46], 0, false, []⟩, ⟨[2], 0, false, []⟩, ⟨[1, 3], 0, false, []⟩, ⟨[1, 3, 64], 0, false, []⟩, ⟨[2], 0, false, []⟩, ⟨[1, 3, 78], 0, false, []⟩, ⟨[2], 0, false, []⟩, ⟨[1, 3, 90], 0, false, []⟩, ⟨[2], 0, false, []⟩, ⟨[1, 3, 93], 0, false, []⟩, ⟨[2], 0, false, []⟩, ⟨[1, 108], 0, false, []⟩, ⟨[2], 0, false, []⟩, ⟨[2], 0, false, []⟩]
theorem m15_ok : cmpFn Try.prog 15 h15 = some m15 := by kernel_rfl

/- dialtone/dialtoneref33.Valid -/
def m16r0 : List MOper := [⟨.box 10 (.tmp 0), none, (some 1), [0]⟩,
  ⟨.mv (.lit (.bool false)), none, (some 2), []⟩]
def m16r1 : List MOper := [⟨.load (some 10) (.tmp 1), none, (some 6), [1]⟩,
  ⟨.build [(.str []), (.int .u8 0), (.bool false), (.bool false), (.int .i64 0), (.int .i64 0), (.int .i64 0), (.int .i64 0), (.int .i64 0), (.int .i64 0)] [], none, (some 7), []⟩,
  ⟨.bin .eql (.flat [2, 0, 1, 1, 0, 0, 0, 0, 0, 0]) (.tmp 6) (.tmp 7), none, (some 8), [6, 7]⟩]
def m16r2 : List MOper := [⟨.mv (.lit (.bool true)), none, (some 2), []⟩]
def m16r3 : List MOper := [⟨.faddr 0 (.tmp 1), none, (some 9), [1]⟩,
  ⟨.load none (.tmp 9), none, (some 10), [9]⟩,
  ⟨.bin .eql .other (.tmp 10) (.lit (.str [])), none, (some 11), [10]⟩,
  ⟨.mv (.tmp 11), none, (some 12), [11]⟩,
  ⟨.faddr 1 (.tmp 1), (some (12, false)), (some 13), [1]⟩,
  ⟨.load none (.tmp 13), (some (12, false)), (some 14), [13]⟩,
  ⟨.bin .lss .other (.tmp 14) (.lit (.int .u8 1)), (some (12, false)), (some 15), [14]⟩,
  ⟨.pick (.tmp 12) (.lit (.bool true)) (.tmp 15), none, (some 16), [12, 15]⟩,
  ⟨.mv (.tmp 16), none, (some 17), [16]⟩,
  ⟨.faddr 1 (.tmp 1), (some (17, false)), (some 18), [1]⟩,
  ⟨.load none (.tmp 18), (some (17, false)), (some 19), [18]⟩,
  ⟨.bin .gtr .other (.tmp 19) (.lit (.int .u8 8)), (some (17, false)), (some 20), [19]⟩,
  ⟨.pick (.tmp 17) (.lit (.bool true)) (.tmp 20), none, (some 21), [17, 20]⟩,
  ⟨.mv (.tmp 21), none, (some 22), [21]⟩,
  ⟨.faddr 5 (.tmp 1), (some (22, false)), (some 23), [1]⟩,
  ⟨.load none (.tmp 23), (some (22, false)), (some 24), [23]⟩,
  ⟨.bin .lss .other (.tmp 24) (.lit (.int .i64 0)), (some (22, false)), (some 25), [24]⟩,
  ⟨.pick (.tmp 22) (.lit (.bool true)) (.tmp 25), none, (some 26), [22, 25]⟩,
  ⟨.mv (.tmp 26), none, (some 27), [26]⟩,
  ⟨.faddr 5 (.tmp 1), (some (27, false)), (some 28), [1]⟩,
  ⟨.load none (.tmp 28), (some (27, false)), (some 29), [28]⟩,
  ⟨.bin .gtr .other (.tmp 29) (.lit (.int .i64 1099511627776)), (some (27, false)), (some 30), [29]⟩,
  ⟨.pick (.tmp 27) (.lit (.bool true)) (.tmp 30), none, (some 31), [27, 30]⟩,
  ⟨.mv (.tmp 31), none, (some 32), [31]⟩,
  ⟨.faddr 6 (.tmp 1), (some (32, false)), (some 33), [1]⟩,
  ⟨.load none (.tmp 33), (some (32, false)), (some 34), [33]⟩,
  ⟨.faddr 5 (.tmp 1), (some (32, false)), (some 35), [1]⟩,
  ⟨.load none (.tmp 35), (some (32, false)), (some 36), [35]⟩,
  ⟨.bin .lss .other (.tmp 34) (.tmp 36), (some (32, false)), (some 37), [34, 36]⟩,
  ⟨.pick (.tmp 32) (.lit (.bool true)) (.tmp 37), none, (some 38), [32, 37]⟩,
  ⟨.mv (.tmp 38), none, (some 39), [38]⟩,
  ⟨.faddr 6 (.tmp 1), (some (39, false)), (some 40), [1]⟩,
  ⟨.load none (.tmp 40), (some (39, false)), (some 41), [40]⟩,
  ⟨.bin .gtr .other (.tmp 41) (.lit (.int .i64 1099511627776)), (some (39, false)), (some 42), [41]⟩,
  ⟨.pick (.tmp 39) (.lit (.bool true)) (.tmp 42), none, (some 43), [39, 42]⟩,
  ⟨.mv (.tmp 43), none, (some 44), [43]⟩,
  ⟨.faddr 9 (.tmp 1), (some (44, false)), (some 45), [1]⟩,
  ⟨.load none (.tmp 45), (some (44, false)), (some 46), [45]⟩,
  ⟨.bin .lss .other (.tmp 46) (.lit (.int .i64 0)), (some (44, false)), (some 47), [46]⟩,
  ⟨.pick (.tmp 44) (.lit (.bool true)) (.tmp 47), none, (some 48), [44, 47]⟩,
  ⟨.mv (.tmp 48), none, (some 49), [48]⟩,
  ⟨.faddr 9 (.tmp 1), (some (49, false)), (some 50), [1]⟩,
  ⟨.load none (.tmp 50), (some (49, false)), (some 51), [50]⟩,
  ⟨.bin .gtr .other (.tmp 51) (.lit (.int .i64 2147483647)), (some (49, false)), (some 52), [51]⟩,
  ⟨.pick (.tmp 49) (.lit (.bool true)) (.tmp 52), none, (some 53), [49, 52]⟩]
def m16r4 : List MOper := [⟨.mv (.lit (.bool false)), none, (some 2), []⟩]
def m16r5 : List MOper := [⟨.faddr 7 (.tmp 1), none, (some 54), [1]⟩,
  ⟨.load none (.tmp 54), none, (some 55), [54]⟩,
  ⟨.bin .eql .other (.tmp 55) (.lit (.int .i64 (-1))), none, (some 56), [55]⟩,
  ⟨.mv (.tmp 56), none, (some 3), [56]⟩]
def m16r6 : List MOper := [⟨.faddr 7 (.tmp 1), none, (some 57), [1]⟩,
  ⟨.load none (.tmp 57), none, (some 58), [57]⟩,
  ⟨.faddr 5 (.tmp 1), none, (some 59), [1]⟩,
  ⟨.load none (.tmp 59), none, (some 60), [59]⟩,
  ⟨.bin .geq .other (.tmp 58) (.tmp 60), none, (some 61), [58, 60]⟩,
  ⟨.mv (.tmp 61), none, (some 62), [61]⟩,
  ⟨.faddr 7 (.tmp 1), (some (62, true)), (some 63), [1]⟩,
  ⟨.load none (.tmp 63), (some (62, true)), (some 64), [63]⟩,
  ⟨.faddr 6 (.tmp 1), (some (62, true)), (some 65), [1]⟩,
  ⟨.load none (.tmp 65), (some (62, true)), (some 66), [65]⟩,
  ⟨.bin .leq .other (.tmp 64) (.tmp 66), (some (62, true)), (some 67), [64, 66]⟩,
  ⟨.pick (.tmp 62) (.tmp 67) (.lit (.bool false)), none, (some 68), [62, 67]⟩,
  ⟨.mv (.tmp 68), none, (some 4), [68]⟩]
def m16r7 : List MOper := [⟨.mv (.tmp 3), none, (some 69), [3]⟩,
  ⟨.un .not (.tmp 69), none, (some 70), [69]⟩,
  ⟨.mv (.tmp 70), none, (some 71), [70]⟩,
  ⟨.mv (.tmp 4), (some (71, true)), (some 72), [4]⟩,
  ⟨.un .not (.tmp 72), (some (71, true)), (some 73), [72]⟩,
  ⟨.pick (.tmp 71) (.tmp 73) (.lit (.bool false)), none, (some 74), [71, 73]⟩,
  ⟨.mv (.tmp 74), none, (some 75), [74]⟩,
  ⟨.load (some 10) (.tmp 1), (some (75, false)), (some 76), [1]⟩,
  ⟨.call 28 [(.tmp 76)], (some (75, false)), (some 77), [76]⟩,
  ⟨.mv (.tmp 77), (some (75, false)), (some 78), [77]⟩,
  ⟨.mv (.tmp 3), (some (78, true)), (some 79), [3]⟩,
  ⟨.un .not (.tmp 79), (some (78, true)), (some 80), [79]⟩,
  ⟨.pick (.tmp 78) (.tmp 80) (.lit (.bool false)), (some (75, false)), (some 81), [78, 80]⟩,
  ⟨.pick (.tmp 75) (.lit (.bool true)) (.tmp 81), none, (some 82), [75, 81]⟩,
  ⟨.mv (.tmp 82), none, (some 83), [82]⟩,
  ⟨.load (some 10) (.tmp 1), (some (83, false)), (some 84), [1]⟩,
  ⟨.call 29 [(.tmp 84)], (some (83, false)), (some 85), [84]⟩,
  ⟨.mv (.tmp 85), (some (83, false)), (some 86), [85]⟩,
  ⟨.load (some 10) (.tmp 1), (some (86, true)), (some 87), [1]⟩,
  ⟨.call 28 [(.tmp 87)], (some (86, true)), (some 88), [87]⟩,
  ⟨.un .not (.tmp 88), (some (86, true)), (some 89), [88]⟩,
  ⟨.pick (.tmp 86) (.tmp 89) (.lit (.bool false)), (some (83, false)), (some 90), [86, 89]⟩,
  ⟨.mv (.tmp 90), (some (83, false)), (some 91), [90]⟩,
  ⟨.mv (.tmp 4), (some (91, true)), (some 92), [4]⟩,
  ⟨.un .not (.tmp 92), (some (91, true)), (some 93), [92]⟩,
  ⟨.pick (.tmp 91) (.tmp 93) (.lit (.bool false)), (some (83, false)), (some 94), [91, 93]⟩,
  ⟨.pick (.tmp 83) (.lit (.bool true)) (.tmp 94), none, (some 95), [83, 94]⟩]
def m16r8 : List MOper := [⟨.mv (.lit (.bool false)), none, (some 2), []⟩]
def m16r9 : List MOper := [⟨.faddr 1 (.tmp 1), none, (some 96), [1]⟩,
  ⟨.load none (.tmp 96), none, (some 97), [96]⟩,
  ⟨.bin .eql .other (.tmp 97) (.lit (.int .u8 8)), none, (some 98), [97]⟩]
def m16r10 : List MOper := [⟨.faddr 8 (.tmp 1), none, (some 99), [1]⟩,
  ⟨.load none (.tmp 99), none, (some 100), [99]⟩,
  ⟨.faddr 6 (.tmp 1), none, (some 101), [1]⟩,
  ⟨.load none (.tmp 101), none, (some 102), [101]⟩,
  ⟨.bin .neq .other (.tmp 100) (.tmp 102), none, (some 103), [100, 102]⟩,
  ⟨.mv (.tmp 103), none, (some 104), [103]⟩,
  ⟨.mv (.tmp 3), (some (104, false)), (some 105), [3]⟩,
  ⟨.mv (.tmp 105), (some (104, false)), (some 106), [105]⟩,
  ⟨.faddr 4 (.tmp 1), (some (106, true)), (some 107), [1]⟩,
  ⟨.load none (.tmp 107), (some (106, true)), (some 108), [107]⟩,
  ⟨.bin .lss .other (.tmp 108) (.lit (.int .i64 300)), (some (106, true)), (some 109), [108]⟩,
  ⟨.mv (.tmp 109), (some (106, true)), (some 110), [109]⟩,
  ⟨.faddr 4 (.tmp 1), (some (110, false)), (some 111), [1]⟩,
  ⟨.load none (.tmp 111), (some (110, false)), (some 112), [111]⟩,
  ⟨.bin .gtr .other (.tmp 112) (.lit (.int .i64 699)), (some (110, false)), (some 113), [112]⟩,
  ⟨.pick (.tmp 110) (.lit (.bool true)) (.tmp 113), (some (106, true)), (some 114), [110, 113]⟩,
  ⟨.pick (.tmp 106) (.tmp 114) (.lit (.bool false)), (some (104, false)), (some 115), [106, 114]⟩,
  ⟨.pick (.tmp 104) (.lit (.bool true)) (.tmp 115), none, (some 116), [104, 115]⟩,
  ⟨.mv (.tmp 116), none, (some 117), [116]⟩,
  ⟨.mv (.tmp 3), (some (117, false)), (some 118), [3]⟩,
  ⟨.un .not (.tmp 118), (some (117, false)), (some 119), [118]⟩,
  ⟨.mv (.tmp 119), (some (117, false)), (some 120), [119]⟩,
  ⟨.faddr 4 (.tmp 1), (some (120, true)), (some 121), [1]⟩,
  ⟨.load none (.tmp 121), (some (120, true)), (some 122), [121]⟩,
  ⟨.bin .neq .other (.tmp 122) (.lit (.int .i64 0)), (some (120, true)), (some 123), [122]⟩,
  ⟨.pick (.tmp 120) (.tmp 123) (.lit (.bool false)), (some (117, false)), (some 124), [120, 123]⟩,
  ⟨.mv (.tmp 124), (some (117, false)), (some 125), [124]⟩,
  ⟨.faddr 4 (.tmp 1), (some (125, true)), (some 126), [1]⟩,
  ⟨.load none (.tmp 126), (some (125, true)), (some 127), [126]⟩,
  ⟨.bin .neq .other (.tmp 127) (.lit (.int .i64 408)), (some (125, true)), (some 128), [127]⟩,
  ⟨.pick (.tmp 125) (.tmp 128) (.lit (.bool false)), (some (117, false)), (some 129), [125, 128]⟩,
  ⟨.mv (.tmp 129), (some (117, false)), (some 130), [129]⟩,
  ⟨.faddr 4 (.tmp 1), (some (130, true)), (some 131), [1]⟩,
  ⟨.load none (.tmp 131), (some (130, true)), (some 132), [131]⟩,
  ⟨.bin .neq .other (.tmp 132) (.lit (.int .i64 500)), (some (130, true)), (some 133), [132]⟩,
  ⟨.pick (.tmp 130) (.tmp 133) (.lit (.bool false)), (some (117, false)), (some 134), [130, 133]⟩,
  ⟨.pick (.tmp 117) (.lit (.bool true)) (.tmp 134), none, (some 135), [117, 134]⟩]
def m16r11 : List MOper := [⟨.mv (.lit (.bool false)), none, (some 2), []⟩]
def m16r12 : List MOper := [⟨.faddr 8 (.tmp 1), none, (some 136), [1]⟩,
  ⟨.load none (.tmp 136), none, (some 137), [136]⟩,
  ⟨.bin .neq .other (.tmp 137) (.lit (.int .i64 (-1))), none, (some 138), [137]⟩,
  ⟨.mv (.tmp 138), none, (some 139), [138]⟩,
  ⟨.faddr 4 (.tmp 1), (some (139, false)), (some 140), [1]⟩,
  ⟨.load none (.tmp 140), (some (139, false)), (some 141), [140]⟩,
  ⟨.bin .neq .other (.tmp 141) (.lit (.int .i64 0)), (some (139, false)), (some 142), [141]⟩,
  ⟨.pick (.tmp 139) (.lit (.bool true)) (.tmp 142), none, (some 143), [139, 142]⟩]
def m16r13 : List MOper := [⟨.mv (.lit (.bool false)), none, (some 2), []⟩]
def m16r14 : List MOper := [⟨.faddr 2 (.tmp 1), none, (some 144), [1]⟩,
  ⟨.aaddr 2 1 (.tmp 144) (.lit (.int .i64 0)), none, (some 145), [144]⟩,
  ⟨.load none (.tmp 145), none, (some 146), [145]⟩,
  ⟨.mv (.tmp 146), none, (some 147), [146]⟩,
  ⟨.faddr 2 (.tmp 1), (some (147, false)), (some 148), [1]⟩,
  ⟨.aaddr 2 1 (.tmp 148) (.lit (.int .i64 1)), (some (147, false)), (some 149), [148]⟩,
  ⟨.load none (.tmp 149), (some (147, false)), (some 150), [149]⟩,
  ⟨.pick (.tmp 147) (.lit (.bool true)) (.tmp 150), none, (some 151), [147, 150]⟩,
  ⟨.mv (.tmp 151), none, (some 5), [151]⟩]
def m16r15 : List MOper := [⟨.mv (.tmp 5), none, (some 152), [5]⟩,
  ⟨.mv (.tmp 152), none, (some 153), [152]⟩,
  ⟨.mv (.tmp 3), (some (153, true)), (some 154), [3]⟩,
  ⟨.mv (.tmp 154), (some (153, true)), (some 155), [154]⟩,
  ⟨.faddr 1 (.tmp 1), (some (155, false)), (some 156), [1]⟩,
  ⟨.load none (.tmp 156), (some (155, false)), (some 157), [156]⟩,
  ⟨.bin .neq .other (.tmp 157) (.lit (.int .u8 3)), (some (155, false)), (some 158), [157]⟩,
  ⟨.mv (.tmp 158), (some (155, false)), (some 159), [158]⟩,
  ⟨.faddr 1 (.tmp 1), (some (159, true)), (some 160), [1]⟩,
  ⟨.load none (.tmp 160), (some (159, true)), (some 161), [160]⟩,
  ⟨.bin .neq .other (.tmp 161) (.lit (.int .u8 4)), (some (159, true)), (some 162), [161]⟩,
  ⟨.pick (.tmp 159) (.tmp 162) (.lit (.bool false)), (some (155, false)), (some 163), [159, 162]⟩,
  ⟨.mv (.tmp 163), (some (155, false)), (some 164), [163]⟩,
  ⟨.faddr 1 (.tmp 1), (some (164, true)), (some 165), [1]⟩,
  ⟨.load none (.tmp 165), (some (164, true)), (some 166), [165]⟩,
  ⟨.bin .neq .other (.tmp 166) (.lit (.int .u8 8)), (some (164, true)), (some 167), [166]⟩,
  ⟨.pick (.tmp 164) (.tmp 167) (.lit (.bool false)), (some (155, false)), (some 168), [164, 167]⟩,
  ⟨.pick (.tmp 155) (.lit (.bool true)) (.tmp 168), (some (153, true)), (some 169), [155, 168]⟩,
  ⟨.pick (.tmp 153) (.tmp 169) (.lit (.bool false)), none, (some 170), [153, 169]⟩]
def m16r16 : List MOper := [⟨.mv (.lit (.bool false)), none, (some 2), []⟩]
def m16r17 : List MOper := [⟨.mv (.tmp 3), none, (some 171), [3]⟩,
  ⟨.mv (.tmp 171), none, (some 172), [171]⟩,
  ⟨.faddr 1 (.tmp 1), (some (172, false)), (some 173), [1]⟩,
  ⟨.load none (.tmp 173), (some (172, false)), (some 174), [173]⟩,
  ⟨.bin .eql .other (.tmp 174) (.lit (.int .u8 7)), (some (172, false)), (some 175), [174]⟩,
  ⟨.pick (.tmp 172) (.lit (.bool true)) (.tmp 175), none, (some 176), [172, 175]⟩,
  ⟨.un .not (.tmp 176), none, (some 177), [176]⟩,
  ⟨.mv (.tmp 177), none, (some 178), [177]⟩,
  ⟨.faddr 9 (.tmp 1), (some (178, false)), (some 179), [1]⟩,
  ⟨.load none (.tmp 179), (some (178, false)), (some 180), [179]⟩,
  ⟨.bin .eql .other (.tmp 180) (.lit (.int .i64 0)), (some (178, false)), (some 181), [180]⟩,
  ⟨.pick (.tmp 178) (.lit (.bool true)) (.tmp 181), none, (some 182), [178, 181]⟩,
  ⟨.mv (.tmp 182), none, (some 2), [182]⟩]
def m16 : MFunc := ⟨183, [.tmp 2],
  (.seq (.region m16r0 [1])
  (.seq (.seq (.region m16r1 [1, 8])
  (.cond (.tmp 8)
  (.seq (.region m16r2 [2])
  .ret)
  .skip))
  (.seq (.seq (.region m16r3 [1, 53])
  (.cond (.tmp 53)
  (.seq (.region m16r4 [2])
  .ret)
  .skip))
  (.seq (.region m16r5 [1, 3])
  (.seq (.region m16r6 [1, 3, 4])
  (.seq (.seq (.region m16r7 [1, 3, 95])
  (.cond (.tmp 95)
  (.seq (.region m16r8 [2])
  .ret)
  .skip))
  (.seq (.seq (.region m16r9 [1, 3, 98])
  (.cond (.tmp 98)
  (.seq (.region m16r10 [1, 3, 135])
  (.cond (.tmp 135)
  (.seq (.region m16r11 [2])
  .ret)
  .skip))
  (.seq (.region m16r12 [1, 3, 143])
  (.cond (.tmp 143)
  (.seq (.region m16r13 [2])
  .ret)
  .skip))))
  (.seq (.region m16r14 [1, 3, 5])
  (.seq (.seq (.region m16r15 [1, 3, 170])
  (.cond (.tmp 170)
  (.seq (.region m16r16 [2])
  .ret)
  .skip))
  (.seq (.region m16r17 [2])
  .ret))))))))))⟩
def h16 : List RH := [⟨[1], 0, false, []⟩, ⟨[1, 8], 0, false, []⟩, ⟨[2], 0, false, []⟩, ⟨[1, 53], 0, false, []⟩, ⟨[2], 0, false, []⟩, ⟨[1, 3], 0, false, []⟩, ⟨[1, 3, 4], 0, false, []⟩, ⟨[1, 3, 95], 0, false, []⟩, ⟨[2], 0, false, []⟩, ⟨[1, 3, 98], 0, false, []⟩, ⟨[1, 3, 135], 0, false, []⟩, ⟨[2], 0, false, []⟩, ⟨[1, 3, 143], 0, false, []⟩, ⟨[2], 0, false, []⟩, ⟨[1, 3, 5], 0, false, []⟩, ⟨[1, 3, 170], 0, false, []⟩, ⟨[2], 0, false, []⟩, ⟨[2], 0, false, []⟩]
theorem m16_ok : cmpFn Try.prog 16 h16 = some m16 := by kernel_rfl

/- slices.SortFunc[[]string,string] -/
def m17r0 : List MOper := [⟨.mv (.tmp 0), none, (some 5), [0]⟩,
  ⟨.len 1 (.tmp 5), none, (some 6), [5]⟩,
  ⟨.mv (.tmp 6), none, (some 4), [6]⟩]
def m17r1 : List MOper := [⟨.mv (.tmp 0), none, (some 7), [0]⟩,
  ⟨.mv (.tmp 4), none, (some 8), [4]⟩,
  ⟨.mv (.tmp 4), none, (some 9), [4]⟩,
  ⟨.conv .u64 (.tmp 9), none, (some 10), [9]⟩,
  ⟨.call 31 [(.tmp 10)], none, (some 11), [10]⟩,
  ⟨.mv (.tmp 1), none, (some 12), [1]⟩,
  ⟨.call 30 [(.tmp 7), (.lit (.int .i64 0)), (.tmp 8), (.tmp 11), (.tmp 12)], none, (some 13), [7, 8, 11, 12]⟩]
def m17 : MFunc := ⟨14, [],
  (.seq (.region m17r0 [0, 1, 4])
  (.region m17r1 []))⟩
def h17 : List RH := [⟨[0, 1, 4], 0, false, []⟩, ⟨[], 0, false, []⟩]
theorem m17_ok : cmpFn Try.prog 17 h17 = some m17 := by kernel_rfl

/- dialtone/callmodel.Run$1 -/
def m18r0 : List MOper := [⟨.mv (.lit (.int .i64 0)), none, (some 4), []⟩]
def m18r1 : List MOper := [⟨.mv (.tmp 0), none, (some 5), [0]⟩,
  ⟨.mv (.tmp 1), none, (some 6), [1]⟩,
  ⟨.call 19 [(.tmp 5), (.tmp 6)], none, (some 7), [5, 6]⟩,
  ⟨.mv (.tmp 7), none, (some 4), [7]⟩]
def m18 : MFunc := ⟨8, [.tmp 4],
  (.seq (.region m18r0 [0, 1])
  (.seq (.region m18r1 [4])
  .ret))⟩
def h18 : List RH := [⟨[0, 1], 0, false, []⟩, ⟨[4], 0, false, []⟩]
theorem m18_ok : cmpFn Try.prog 18 h18 = some m18 := by kernel_rfl

/- strings.Compare -/
def m19r0 : List MOper := [⟨.mv (.lit (.int .i64 0)), none, (some 4), []⟩]
def m19r1 : List MOper := [⟨.mv (.tmp 0), none, (some 5), [0]⟩,
  ⟨.mv (.tmp 1), none, (some 6), [1]⟩,
  ⟨.call 32 [(.tmp 5), (.tmp 6)], none, (some 7), [5, 6]⟩,
  ⟨.mv (.tmp 7), none, (some 4), [7]⟩]
def m19 : MFunc := ⟨8, [.tmp 4],
  (.seq (.region m19r0 [0, 1])
  (.seq (.region m19r1 [4])
  .ret))⟩
def h19 : List RH := [⟨[0, 1], 0, false, []⟩, ⟨[4], 0, false, []⟩]
theorem m19_ok : cmpFn Try.prog 19 h19 = some m19 := by kernel_rfl

/- dialtone/callmodel.ValidEvent -/
def m20r0 : List MOper := [⟨.box 5 (.tmp 0), none, (some 1), [0]⟩,
  ⟨.mv (.lit (.bool false)), none, (some 2), []⟩]
def m20r1 : List MOper := [⟨.faddr 0 (.tmp 1), none, (some 3), [1]⟩,
  ⟨.load none (.tmp 3), none, (some 4), [3]⟩,
  ⟨.bin .lss .other (.tmp 4) (.lit (.int .u8 1)), none, (some 5), [4]⟩,
  ⟨.mv (.tmp 5), none, (some 6), [5]⟩,
  ⟨.faddr 0 (.tmp 1), (some (6, false)), (some 7), [1]⟩,
  ⟨.load none (.tmp 7), (some (6, false)), (some 8), [7]⟩,
  ⟨.bin .gtr .other (.tmp 8) (.lit (.int .u8 17)), (some (6, false)), (some 9), [8]⟩,
  ⟨.pick (.tmp 6) (.lit (.bool true)) (.tmp 9), none, (some 10), [6, 9]⟩,
  ⟨.mv (.tmp 10), none, (some 11), [10]⟩,
  ⟨.faddr 1 (.tmp 1), (some (11, false)), (some 12), [1]⟩,
  ⟨.load none (.tmp 12), (some (11, false)), (some 13), [12]⟩,
  ⟨.bin .eql .other (.tmp 13) (.lit (.str [])), (some (11, false)), (some 14), [13]⟩,
  ⟨.pick (.tmp 11) (.lit (.bool true)) (.tmp 14), none, (some 15), [11, 14]⟩,
  ⟨.mv (.tmp 15), none, (some 16), [15]⟩,
  ⟨.faddr 4 (.tmp 1), (some (16, false)), (some 17), [1]⟩,
  ⟨.load none (.tmp 17), (some (16, false)), (some 18), [17]⟩,
  ⟨.bin .lss .other (.tmp 18) (.lit (.int .i64 0)), (some (16, false)), (some 19), [18]⟩,
  ⟨.pick (.tmp 16) (.lit (.bool true)) (.tmp 19), none, (some 20), [16, 19]⟩,
  ⟨.mv (.tmp 20), none, (some 21), [20]⟩,
  ⟨.faddr 4 (.tmp 1), (some (21, false)), (some 22), [1]⟩,
  ⟨.load none (.tmp 22), (some (21, false)), (some 23), [22]⟩,
  ⟨.bin .gtr .other (.tmp 23) (.lit (.int .i64 1099511627776)), (some (21, false)), (some 24), [23]⟩,
  ⟨.pick (.tmp 21) (.lit (.bool true)) (.tmp 24), none, (some 25), [21, 24]⟩]
def m20r2 : List MOper := [⟨.mv (.lit (.bool false)), none, (some 2), []⟩]
def m20r3 : List MOper := [⟨.faddr 0 (.tmp 1), none, (some 26), [1]⟩,
  ⟨.load none (.tmp 26), none, (some 27), [26]⟩,
  ⟨.bin .eql .other (.tmp 27) (.lit (.int .u8 4)), none, (some 28), [27]⟩]
def m20r4 : List MOper := [⟨.faddr 2 (.tmp 1), none, (some 29), [1]⟩,
  ⟨.load none (.tmp 29), none, (some 30), [29]⟩,
  ⟨.bin .eql .other (.tmp 30) (.lit (.int .i64 0)), none, (some 31), [30]⟩,
  ⟨.mv (.tmp 31), none, (some 32), [31]⟩,
  ⟨.faddr 2 (.tmp 1), (some (32, false)), (some 33), [1]⟩,
  ⟨.load none (.tmp 33), (some (32, false)), (some 34), [33]⟩,
  ⟨.bin .eql .other (.tmp 34) (.lit (.int .i64 1)), (some (32, false)), (some 35), [34]⟩,
  ⟨.pick (.tmp 32) (.lit (.bool true)) (.tmp 35), none, (some 36), [32, 35]⟩,
  ⟨.mv (.tmp 36), none, (some 37), [36]⟩,
  ⟨.faddr 3 (.tmp 1), (some (37, true)), (some 38), [1]⟩,
  ⟨.load none (.tmp 38), (some (37, true)), (some 39), [38]⟩,
  ⟨.bin .geq .other (.tmp 39) (.lit (.int .i64 300)), (some (37, true)), (some 40), [39]⟩,
  ⟨.pick (.tmp 37) (.tmp 40) (.lit (.bool false)), none, (some 41), [37, 40]⟩,
  ⟨.mv (.tmp 41), none, (some 42), [41]⟩,
  ⟨.faddr 3 (.tmp 1), (some (42, true)), (some 43), [1]⟩,
  ⟨.load none (.tmp 43), (some (42, true)), (some 44), [43]⟩,
  ⟨.bin .leq .other (.tmp 44) (.lit (.int .i64 699)), (some (42, true)), (some 45), [44]⟩,
  ⟨.pick (.tmp 42) (.tmp 45) (.lit (.bool false)), none, (some 46), [42, 45]⟩,
  ⟨.mv (.tmp 46), none, (some 2), [46]⟩]
def m20r5 : List MOper := [⟨.faddr 2 (.tmp 1), none, (some 47), [1]⟩,
  ⟨.load none (.tmp 47), none, (some 48), [47]⟩,
  ⟨.bin .eql .other (.tmp 48) (.lit (.int .i64 0)), none, (some 49), [48]⟩,
  ⟨.mv (.tmp 49), none, (some 50), [49]⟩,
  ⟨.faddr 2 (.tmp 1), (some (50, false)), (some 51), [1]⟩,
  ⟨.load none (.tmp 51), (some (50, false)), (some 52), [51]⟩,
  ⟨.bin .eql .other (.tmp 52) (.lit (.int .i64 1)), (some (50, false)), (some 53), [52]⟩,
  ⟨.pick (.tmp 50) (.lit (.bool true)) (.tmp 53), none, (some 54), [50, 53]⟩,
  ⟨.mv (.tmp 54), none, (some 55), [54]⟩,
  ⟨.faddr 3 (.tmp 1), (some (55, true)), (some 56), [1]⟩,
  ⟨.load none (.tmp 56), (some (55, true)), (some 57), [56]⟩,
  ⟨.bin .eql .other (.tmp 57) (.lit (.int .i64 0)), (some (55, true)), (some 58), [57]⟩,
  ⟨.pick (.tmp 55) (.tmp 58) (.lit (.bool false)), none, (some 59), [55, 58]⟩,
  ⟨.mv (.tmp 59), none, (some 2), [59]⟩]
def m20 : MFunc := ⟨60, [.tmp 2],
  (.seq (.region m20r0 [1])
  (.seq (.seq (.region m20r1 [1, 25])
  (.cond (.tmp 25)
  (.seq (.region m20r2 [2])
  .ret)
  .skip))
  (.seq (.seq (.region m20r3 [1, 28])
  (.cond (.tmp 28)
  (.seq (.region m20r4 [2])
  .ret)
  .skip))
  (.seq (.region m20r5 [2])
  .ret))))⟩
def h20 : List RH := [⟨[1], 0, false, []⟩, ⟨[1, 25], 0, false, []⟩, ⟨[2], 0, false, []⟩, ⟨[1, 28], 0, false, []⟩, ⟨[2], 0, false, []⟩, ⟨[2], 0, false, []⟩]
theorem m20_ok : cmpFn Try.prog 20 h20 = some m20 := by kernel_rfl

/- dialtone/callmodel.may -/
def m21r0 : List MOper := [⟨.box 10 (.tmp 0), none, (some 2), [0]⟩,
  ⟨.box 5 (.tmp 1), none, (some 3), [1]⟩,
  ⟨.mv (.lit (.bool false)), none, (some 4), []⟩]
def m21r1 : List MOper := [⟨.faddr 0 (.tmp 3), none, (some 5), [3]⟩,
  ⟨.load none (.tmp 5), none, (some 6), [5]⟩]
def m21r2 : List MOper := [⟨.bin .eql .other (.tmp 6) (.lit (.int .u8 2)), none, (some 8), [6]⟩,
  ⟨.mv (.tmp 8), none, (some 7), [8]⟩]
def m21r3 : List MOper := [⟨.load (some 10) (.tmp 2), none, (some 9), [2]⟩,
  ⟨.mkfrz [(.int .u8 0)] 2 [(0, (.lit (.int .u8 1))), (1, (.lit (.int .u8 2)))], none, (some 10), []⟩,
  ⟨.call 26 [(.tmp 9), (.tmp 10)], none, (some 11), [9, 10]⟩,
  ⟨.mv (.tmp 11), none, (some 4), [11]⟩]
def m21r4 : List MOper := [⟨.bin .eql .other (.tmp 6) (.lit (.int .u8 12)), none, (some 13), [6]⟩,
  ⟨.mv (.tmp 13), none, (some 12), [13]⟩]
def m21r5 : List MOper := [⟨.load (some 10) (.tmp 2), none, (some 14), [2]⟩,
  ⟨.mkfrz [(.int .u8 0)] 1 [(0, (.lit (.int .u8 1)))], none, (some 15), []⟩,
  ⟨.call 26 [(.tmp 14), (.tmp 15)], none, (some 16), [14, 15]⟩,
  ⟨.mv (.tmp 16), none, (some 4), [16]⟩]
def m21r6 : List MOper := [⟨.bin .eql .other (.tmp 6) (.lit (.int .u8 3)), none, (some 18), [6]⟩,
  ⟨.mv (.tmp 18), none, (some 17), [18]⟩]
def m21r7 : List MOper := [⟨.bin .eql .other (.tmp 6) (.lit (.int .u8 15)), none, (some 19), [6]⟩,
  ⟨.mv (.tmp 19), none, (some 17), [19]⟩]
def m21r8 : List MOper := [⟨.bin .eql .other (.tmp 6) (.lit (.int .u8 4)), none, (some 20), [6]⟩,
  ⟨.mv (.tmp 20), none, (some 17), [20]⟩]
def m21r9 : List MOper := [⟨.bin .eql .other (.tmp 6) (.lit (.int .u8 5)), none, (some 21), [6]⟩,
  ⟨.mv (.tmp 21), none, (some 17), [21]⟩]
def m21r10 : List MOper := [⟨.load (some 10) (.tmp 2), none, (some 22), [2]⟩,
  ⟨.call 27 [(.tmp 22)], none, (some 23), [22]⟩,
  ⟨.mv (.tmp 23), none, (some 4), [23]⟩]
def m21r11 : List MOper := [⟨.bin .eql .other (.tmp 6) (.lit (.int .u8 6)), none, (some 25), [6]⟩,
  ⟨.mv (.tmp 25), none, (some 24), [25]⟩]
def m21r12 : List MOper := [⟨.load (some 10) (.tmp 2), none, (some 26), [2]⟩,
  ⟨.mkfrz [(.int .u8 0)] 1 [(0, (.lit (.int .u8 3)))], none, (some 27), []⟩,
  ⟨.call 26 [(.tmp 26), (.tmp 27)], none, (some 28), [26, 27]⟩,
  ⟨.mv (.tmp 28), none, (some 29), [28]⟩,
  ⟨.faddr 2 (.tmp 3), (some (29, true)), (some 30), [3]⟩,
  ⟨.load none (.tmp 30), (some (29, true)), (some 31), [30]⟩,
  ⟨.faddr 2 (.tmp 2), (some (29, true)), (some 32), [2]⟩,
  ⟨.aaddr 2 1 (.tmp 32) (.tmp 31), (some (29, true)), (some 33), [32, 31]⟩,
  ⟨.load none (.tmp 33), (some (29, true)), (some 34), [33]⟩,
  ⟨.un .not (.tmp 34), (some (29, true)), (some 35), [34]⟩,
  ⟨.pick (.tmp 29) (.tmp 35) (.lit (.bool false)), none, (some 36), [29, 35]⟩,
  ⟨.mv (.tmp 36), none, (some 4), [36]⟩]
def m21r13 : List MOper := [⟨.bin .eql .other (.tmp 6) (.lit (.int .u8 7)), none, (some 38), [6]⟩,
  ⟨.mv (.tmp 38), none, (some 37), [38]⟩]
def m21r14 : List MOper := [⟨.load (some 10) (.tmp 2), none, (some 39), [2]⟩,
  ⟨.mkfrz [(.int .u8 0)] 1 [(0, (.lit (.int .u8 3)))], none, (some 40), []⟩,
  ⟨.call 26 [(.tmp 39), (.tmp 40)], none, (some 41), [39, 40]⟩,
  ⟨.mv (.tmp 41), none, (some 42), [41]⟩,
  ⟨.faddr 2 (.tmp 3), (some (42, true)), (some 43), [3]⟩,
  ⟨.load none (.tmp 43), (some (42, true)), (some 44), [43]⟩,
  ⟨.faddr 2 (.tmp 2), (some (42, true)), (some 45), [2]⟩,
  ⟨.aaddr 2 1 (.tmp 45) (.tmp 44), (some (42, true)), (some 46), [45, 44]⟩,
  ⟨.load none (.tmp 46), (some (42, true)), (some 47), [46]⟩,
  ⟨.pick (.tmp 42) (.tmp 47) (.lit (.bool false)), none, (some 48), [42, 47]⟩,
  ⟨.mv (.tmp 48), none, (some 4), [48]⟩]
def m21r15 : List MOper := [⟨.bin .eql .other (.tmp 6) (.lit (.int .u8 9)), none, (some 50), [6]⟩,
  ⟨.mv (.tmp 50), none, (some 49), [50]⟩]
def m21r16 : List MOper := [⟨.bin .eql .other (.tmp 6) (.lit (.int .u8 13)), none, (some 51), [6]⟩,
  ⟨.mv (.tmp 51), none, (some 49), [51]⟩]
def m21r17 : List MOper := [⟨.load (some 10) (.tmp 2), none, (some 52), [2]⟩,
  ⟨.mkfrz [(.int .u8 0)] 1 [(0, (.lit (.int .u8 3)))], none, (some 53), []⟩,
  ⟨.call 26 [(.tmp 52), (.tmp 53)], none, (some 54), [52, 53]⟩,
  ⟨.mv (.tmp 54), none, (some 4), [54]⟩]
def m21r18 : List MOper := [⟨.bin .eql .other (.tmp 6) (.lit (.int .u8 10)), none, (some 56), [6]⟩,
  ⟨.mv (.tmp 56), none, (some 55), [56]⟩]
def m21r19 : List MOper := [⟨.load (some 10) (.tmp 2), none, (some 57), [2]⟩,
  ⟨.mkfrz [(.int .u8 0)] 1 [(0, (.lit (.int .u8 4)))], none, (some 58), []⟩,
  ⟨.call 26 [(.tmp 57), (.tmp 58)], none, (some 59), [57, 58]⟩,
  ⟨.mv (.tmp 59), none, (some 60), [59]⟩,
  ⟨.faddr 9 (.tmp 2), (some (60, true)), (some 61), [2]⟩,
  ⟨.load none (.tmp 61), (some (60, true)), (some 62), [61]⟩,
  ⟨.bin .lss .other (.tmp 62) (.lit (.int .i64 2147483647)), (some (60, true)), (some 63), [62]⟩,
  ⟨.pick (.tmp 60) (.tmp 63) (.lit (.bool false)), none, (some 64), [60, 63]⟩,
  ⟨.mv (.tmp 64), none, (some 4), [64]⟩]
def m21r20 : List MOper := [⟨.bin .eql .other (.tmp 6) (.lit (.int .u8 11)), none, (some 66), [6]⟩,
  ⟨.mv (.tmp 66), none, (some 65), [66]⟩]
def m21r21 : List MOper := [⟨.load (some 10) (.tmp 2), none, (some 67), [2]⟩,
  ⟨.mkfrz [(.int .u8 0)] 1 [(0, (.lit (.int .u8 4)))], none, (some 68), []⟩,
  ⟨.call 26 [(.tmp 67), (.tmp 68)], none, (some 69), [67, 68]⟩,
  ⟨.mv (.tmp 69), none, (some 4), [69]⟩]
def m21r22 : List MOper := [⟨.bin .eql .other (.tmp 6) (.lit (.int .u8 14)), none, (some 71), [6]⟩,
  ⟨.mv (.tmp 71), none, (some 70), [71]⟩]
def m21r23 : List MOper := [⟨.load (some 10) (.tmp 2), none, (some 72), [2]⟩,
  ⟨.mkfrz [(.int .u8 0)] 1 [(0, (.lit (.int .u8 5)))], none, (some 73), []⟩,
  ⟨.call 26 [(.tmp 72), (.tmp 73)], none, (some 74), [72, 73]⟩,
  ⟨.mv (.tmp 74), none, (some 75), [74]⟩,
  ⟨.faddr 9 (.tmp 2), (some (75, true)), (some 76), [2]⟩,
  ⟨.load none (.tmp 76), (some (75, true)), (some 77), [76]⟩,
  ⟨.bin .lss .other (.tmp 77) (.lit (.int .i64 2147483647)), (some (75, true)), (some 78), [77]⟩,
  ⟨.pick (.tmp 75) (.tmp 78) (.lit (.bool false)), none, (some 79), [75, 78]⟩,
  ⟨.mv (.tmp 79), none, (some 4), [79]⟩]
def m21r24 : List MOper := [⟨.bin .eql .other (.tmp 6) (.lit (.int .u8 8)), none, (some 81), [6]⟩,
  ⟨.mv (.tmp 81), none, (some 80), [81]⟩]
def m21r25 : List MOper := [⟨.load (some 10) (.tmp 2), none, (some 82), [2]⟩,
  ⟨.mkfrz [(.int .u8 0)] 4 [(0, (.lit (.int .u8 3))), (1, (.lit (.int .u8 4))), (2, (.lit (.int .u8 5))), (3, (.lit (.int .u8 7)))], none, (some 83), []⟩,
  ⟨.call 26 [(.tmp 82), (.tmp 83)], none, (some 84), [82, 83]⟩,
  ⟨.mv (.tmp 84), none, (some 4), [84]⟩]
def m21r26 : List MOper := [⟨.load (some 10) (.tmp 2), none, (some 85), [2]⟩,
  ⟨.call 25 [(.tmp 85)], none, (some 86), [85]⟩,
  ⟨.mv (.tmp 86), none, (some 4), [86]⟩]
def m21 : MFunc := ⟨87, [.tmp 4],
  (.seq (.region m21r0 [2, 3])
  (.seq (.seq (.region m21r1 [2, 3, 6])
  (.block 0 (.seq (.region m21r2 [2, 3, 6, 7])
  (.cond (.tmp 7)
  (.seq (.region m21r3 [4])
  .ret)
  (.seq (.region m21r4 [2, 3, 6, 12])
  (.cond (.tmp 12)
  (.seq (.region m21r5 [4])
  .ret)
  (.seq (.seq (.region m21r6 [2, 3, 6, 17])
  (.cond (.tmp 17)
  .skip
  (.seq (.region m21r7 [2, 3, 6, 17])
  (.cond (.tmp 17)
  .skip
  (.seq (.region m21r8 [2, 3, 6, 17])
  (.cond (.tmp 17)
  .skip
  (.region m21r9 [2, 3, 6, 17])))))))
  (.cond (.tmp 17)
  (.seq (.region m21r10 [4])
  .ret)
  (.seq (.region m21r11 [2, 3, 6, 24])
  (.cond (.tmp 24)
  (.seq (.region m21r12 [4])
  .ret)
  (.seq (.region m21r13 [2, 3, 6, 37])
  (.cond (.tmp 37)
  (.seq (.region m21r14 [4])
  .ret)
  (.seq (.seq (.region m21r15 [2, 6, 49])
  (.cond (.tmp 49)
  .skip
  (.region m21r16 [2, 6, 49])))
  (.cond (.tmp 49)
  (.seq (.region m21r17 [4])
  .ret)
  (.seq (.region m21r18 [2, 6, 55])
  (.cond (.tmp 55)
  (.seq (.region m21r19 [4])
  .ret)
  (.seq (.region m21r20 [2, 6, 65])
  (.cond (.tmp 65)
  (.seq (.region m21r21 [4])
  .ret)
  (.seq (.region m21r22 [2, 6, 70])
  (.cond (.tmp 70)
  (.seq (.region m21r23 [4])
  .ret)
  (.seq (.region m21r24 [2, 80])
  (.cond (.tmp 80)
  (.seq (.region m21r25 [4])
  .ret)
  .skip))))))))))))))))))))))
  (.seq (.region m21r26 [4])
  .ret)))⟩
def h21 : List RH := [⟨[2, 3], 0, false, []⟩, ⟨[2, 3, 6], 0, false, []⟩, ⟨[2, 3, 6, 7], 0, false, []⟩, ⟨[4], 0, false, []⟩, ⟨[2, 3, 6, 12], 0, false, []⟩, ⟨[4], 0, false, []⟩, ⟨[2, 3, 6, 17], 0, false, []⟩, ⟨[2, 3, 6, 17], 0, false, []⟩, ⟨[2, 3, 6, 17], 0, false, []⟩, ⟨[2, 3, 6, 17], 0, false, []⟩, ⟨[4], 0, false, []⟩, ⟨[2, 3, 6, 24], 0, false, []⟩, ⟨[4], 0, false, []⟩, ⟨[2, 3, 6, 37], 0, false, []⟩, ⟨[4], 0, false, []⟩, ⟨[2, 6, 49], 0, false, []⟩, ⟨[2, 6, 49], 0, false, []⟩, ⟨[4], 0, false, []⟩, ⟨[2, 6, 55], 0, false, []⟩, ⟨[4], 0, false, []⟩, ⟨[2, 6, 65], 0, false, []⟩, ⟨[4], 0, false, []⟩, ⟨[2, 6, 70], 0, false, []⟩, ⟨[4], 0, false, []⟩, ⟨[2, 80], 0, false, []⟩, ⟨[4], 0, false, []⟩, ⟨[4], 0, false, []⟩]
theorem m21_ok : cmpFn Try.prog 21 h21 = some m21 := by kernel_rfl

/- dialtone/callmodel.change -/
def m22r0 : List MOper := [⟨.box 5 (.tmp 1), none, (some 3), [1]⟩]
def m22r1 : List MOper := [⟨.faddr 0 (.tmp 3), none, (some 4), [3]⟩,
  ⟨.load none (.tmp 4), none, (some 5), [4]⟩]
def m22r2 : List MOper := [⟨.bin .eql .other (.tmp 5) (.lit (.int .u8 2)), none, (some 7), [5]⟩,
  ⟨.mv (.tmp 7), none, (some 6), [7]⟩]
def m22r3 : List MOper := [⟨.mv (.tmp 0), none, (some 8), [0]⟩,
  ⟨.nilchk (.tmp 8), none, (some 9), [8]⟩,
  ⟨.faddr 1 (.tmp 9), none, (some 10), [9]⟩,
  ⟨.store 1 (.tmp 10) (.lit (.int .u8 2)), none, none, [10]⟩]
def m22r4 : List MOper := [⟨.bin .eql .other (.tmp 5) (.lit (.int .u8 12)), none, (some 12), [5]⟩,
  ⟨.mv (.tmp 12), none, (some 11), [12]⟩]
def m22r5 : List MOper := [⟨.mv (.tmp 0), none, (some 13), [0]⟩,
  ⟨.nilchk (.tmp 13), none, (some 14), [13]⟩,
  ⟨.faddr 1 (.tmp 14), none, (some 15), [14]⟩,
  ⟨.store 1 (.tmp 15) (.lit (.int .u8 6)), none, none, [15]⟩]
def m22r6 : List MOper := [⟨.bin .eql .other (.tmp 5) (.lit (.int .u8 3)), none, (some 17), [5]⟩,
  ⟨.mv (.tmp 17), none, (some 16), [17]⟩]
def m22r7 : List MOper := [⟨.mv (.tmp 0), none, (some 18), [0]⟩,
  ⟨.mv (.tmp 0), none, (some 19), [0]⟩,
  ⟨.faddr 4 (.tmp 3), none, (some 20), [3]⟩,
  ⟨.load none (.tmp 20), none, (some 21), [20]⟩]
def m22r8 : List MOper := [⟨.nilchk (.tmp 18), none, (some 22), [18]⟩,
  ⟨.faddr 1 (.tmp 22), none, (some 23), [22]⟩,
  ⟨.store 1 (.tmp 23) (.lit (.int .u8 3)), none, none, [23]⟩,
  ⟨.nilchk (.tmp 19), none, (some 24), [19]⟩,
  ⟨.faddr 7 (.tmp 24), none, (some 25), [24]⟩,
  ⟨.store 1 (.tmp 25) (.tmp 21), none, none, [25, 21]⟩]
def m22r9 : List MOper := [⟨.load none (.tmp 20), none, (some 21), [20]⟩]
def m22r10 : List MOper := [⟨.load none (.tmp 20), none, (some 21), [20]⟩]
def m22r11 : List MOper := [⟨.load none (.tmp 20), none, (some 21), [20]⟩]
def m22r12 : List MOper := [⟨.load none (.tmp 20), none, (some 21), [20]⟩]
def m22r13 : List MOper := [⟨.bin .eql .other (.tmp 5) (.lit (.int .u8 15)), none, (some 27), [5]⟩,
  ⟨.mv (.tmp 27), none, (some 26), [27]⟩]
def m22r14 : List MOper := [⟨.mv (.tmp 0), none, (some 28), [0]⟩,
  ⟨.mv (.tmp 0), none, (some 29), [0]⟩,
  ⟨.faddr 4 (.tmp 3), none, (some 30), [3]⟩,
  ⟨.load none (.tmp 30), none, (some 31), [30]⟩]
def m22r15 : List MOper := [⟨.nilchk (.tmp 28), none, (some 32), [28]⟩,
  ⟨.faddr 1 (.tmp 32), none, (some 33), [32]⟩,
  ⟨.store 1 (.tmp 33) (.lit (.int .u8 7)), none, none, [33]⟩,
  ⟨.nilchk (.tmp 29), none, (some 34), [29]⟩,
  ⟨.faddr 7 (.tmp 34), none, (some 35), [34]⟩,
  ⟨.store 1 (.tmp 35) (.tmp 31), none, none, [35, 31]⟩]
def m22r16 : List MOper := [⟨.load none (.tmp 30), none, (some 31), [30]⟩]
def m22r17 : List MOper := [⟨.load none (.tmp 30), none, (some 31), [30]⟩]
def m22r18 : List MOper := [⟨.load none (.tmp 30), none, (some 31), [30]⟩]
def m22r19 : List MOper := [⟨.load none (.tmp 30), none, (some 31), [30]⟩]
def m22r20 : List MOper := [⟨.bin .eql .other (.tmp 5) (.lit (.int .u8 4)), none, (some 37), [5]⟩,
  ⟨.mv (.tmp 37), none, (some 36), [37]⟩]
def m22r21 : List MOper := [⟨.bin .eql .other (.tmp 5) (.lit (.int .u8 8)), none, (some 38), [5]⟩,
  ⟨.mv (.tmp 38), none, (some 36), [38]⟩]
def m22r22 : List MOper := [⟨.mv (.tmp 0), none, (some 39), [0]⟩,
  ⟨.faddr 3 (.tmp 3), none, (some 40), [3]⟩,
  ⟨.load none (.tmp 40), none, (some 41), [40]⟩,
  ⟨.faddr 4 (.tmp 3), none, (some 42), [3]⟩,
  ⟨.load none (.tmp 42), none, (some 43), [42]⟩,
  ⟨.call 33 [(.tmp 39), (.tmp 41), (.tmp 43)], none, (some 44), [39, 41, 43]⟩]
def m22r23 : List MOper := [⟨.bin .eql .other (.tmp 5) (.lit (.int .u8 5)), none, (some 46), [5]⟩,
  ⟨.mv (.tmp 46), none, (some 45), [46]⟩]
def m22r24 : List MOper := [⟨.mv (.tmp 0), none, (some 47), [0]⟩,
  ⟨.faddr 4 (.tmp 3), none, (some 48), [3]⟩,
  ⟨.load none (.tmp 48), none, (some 49), [48]⟩,
  ⟨.call 33 [(.tmp 47), (.lit (.int .i64 487)), (.tmp 49)], none, (some 50), [47, 49]⟩]
def m22r25 : List MOper := [⟨.bin .eql .other (.tmp 5) (.lit (.int .u8 16)), none, (some 52), [5]⟩,
  ⟨.mv (.tmp 52), none, (some 51), [52]⟩]
def m22r26 : List MOper := [⟨.mv (.tmp 0), none, (some 53), [0]⟩,
  ⟨.faddr 4 (.tmp 3), none, (some 54), [3]⟩,
  ⟨.load none (.tmp 54), none, (some 55), [54]⟩,
  ⟨.call 33 [(.tmp 53), (.lit (.int .i64 408)), (.tmp 55)], none, (some 56), [53, 55]⟩]
def m22r27 : List MOper := [⟨.bin .eql .other (.tmp 5) (.lit (.int .u8 17)), none, (some 58), [5]⟩,
  ⟨.mv (.tmp 58), none, (some 57), [58]⟩]
def m22r28 : List MOper := [⟨.mv (.tmp 0), none, (some 59), [0]⟩,
  ⟨.faddr 4 (.tmp 3), none, (some 60), [3]⟩,
  ⟨.load none (.tmp 60), none, (some 61), [60]⟩,
  ⟨.call 33 [(.tmp 59), (.lit (.int .i64 500)), (.tmp 61)], none, (some 62), [59, 61]⟩]
def m22r29 : List MOper := [⟨.bin .eql .other (.tmp 5) (.lit (.int .u8 6)), none, (some 64), [5]⟩,
  ⟨.mv (.tmp 64), none, (some 63), [64]⟩]
def m22r30 : List MOper := [⟨.bin .eql .other (.tmp 5) (.lit (.int .u8 7)), none, (some 65), [5]⟩,
  ⟨.mv (.tmp 65), none, (some 63), [65]⟩]
def m22r31 : List MOper := [⟨.mv (.tmp 0), none, (some 66), [0]⟩,
  ⟨.faddr 2 (.tmp 3), none, (some 67), [3]⟩,
  ⟨.load none (.tmp 67), none, (some 68), [67]⟩,
  ⟨.faddr 0 (.tmp 3), none, (some 69), [3]⟩,
  ⟨.load none (.tmp 69), none, (some 70), [69]⟩,
  ⟨.bin .eql .other (.tmp 70) (.lit (.int .u8 6)), none, (some 71), [70]⟩]
def m22r32 : List MOper := [⟨.nilchk (.tmp 66), none, (some 72), [66]⟩,
  ⟨.faddr 2 (.tmp 72), none, (some 73), [72]⟩,
  ⟨.aaddr 2 1 (.tmp 73) (.tmp 68), none, (some 74), [73, 68]⟩,
  ⟨.store 1 (.tmp 74) (.tmp 71), none, none, [74, 71]⟩]
def m22r33 : List MOper := [⟨.load none (.tmp 67), none, (some 68), [67]⟩,
  ⟨.load none (.tmp 69), none, (some 70), [69]⟩]
def m22r34 : List MOper := [⟨.load none (.tmp 67), none, (some 68), [67]⟩,
  ⟨.load none (.tmp 69), none, (some 70), [69]⟩]
def m22r35 : List MOper := [⟨.load none (.tmp 67), none, (some 68), [67]⟩,
  ⟨.load none (.tmp 69), none, (some 70), [69]⟩]
def m22r36 : List MOper := [⟨.bin .eql .other (.tmp 5) (.lit (.int .u8 9)), none, (some 76), [5]⟩,
  ⟨.mv (.tmp 76), none, (some 75), [76]⟩]
def m22r37 : List MOper := [⟨.mv (.tmp 0), none, (some 77), [0]⟩,
  ⟨.nilchk (.tmp 77), none, (some 78), [77]⟩,
  ⟨.faddr 1 (.tmp 78), none, (some 79), [78]⟩,
  ⟨.store 1 (.tmp 79) (.lit (.int .u8 4)), none, none, [79]⟩]
def m22r38 : List MOper := [⟨.bin .eql .other (.tmp 5) (.lit (.int .u8 10)), none, (some 81), [5]⟩,
  ⟨.mv (.tmp 81), none, (some 80), [81]⟩]
def m22r39 : List MOper := [⟨.mv (.tmp 0), none, (some 82), [0]⟩,
  ⟨.mv (.tmp 0), none, (some 83), [0]⟩,
  ⟨.build [(.bool false), (.bool false)] [], none, (some 84), []⟩,
  ⟨.nilchk (.tmp 82), none, (some 85), [82]⟩,
  ⟨.faddr 1 (.tmp 85), none, (some 86), [85]⟩,
  ⟨.store 1 (.tmp 86) (.lit (.int .u8 3)), none, none, [86]⟩,
  ⟨.nilchk (.tmp 83), none, (some 87), [83]⟩,
  ⟨.faddr 2 (.tmp 87), none, (some 88), [87]⟩,
  ⟨.store 2 (.tmp 88) (.tmp 84), none, none, [88, 84]⟩]
def m22r40 : List MOper := [⟨.mv (.tmp 0), none, (some 89), [0]⟩,
  ⟨.nilchk (.tmp 89), none, (some 90), [89]⟩,
  ⟨.faddr 9 (.tmp 90), none, (some 91), [90]⟩,
  ⟨.load none (.tmp 91), none, (some 92), [91]⟩,
  ⟨.bin .add .other (.tmp 92) (.lit (.int .i64 1)), none, (some 93), [92]⟩,
  ⟨.nilchk (.tmp 89), none, (some 94), [89]⟩,
  ⟨.faddr 9 (.tmp 94), none, (some 95), [94]⟩,
  ⟨.store 1 (.tmp 95) (.tmp 93), none, none, [95, 93]⟩]
def m22r41 : List MOper := [⟨.bin .eql .other (.tmp 5) (.lit (.int .u8 11)), none, (some 97), [5]⟩,
  ⟨.mv (.tmp 97), none, (some 96), [97]⟩]
def m22r42 : List MOper := [⟨.mv (.tmp 0), none, (some 98), [0]⟩,
  ⟨.nilchk (.tmp 98), none, (some 99), [98]⟩,
  ⟨.faddr 1 (.tmp 99), none, (some 100), [99]⟩,
  ⟨.store 1 (.tmp 100) (.lit (.int .u8 3)), none, none, [100]⟩]
def m22r43 : List MOper := [⟨.bin .eql .other (.tmp 5) (.lit (.int .u8 13)), none, (some 102), [5]⟩,
  ⟨.mv (.tmp 102), none, (some 101), [102]⟩]
def m22r44 : List MOper := [⟨.mv (.tmp 0), none, (some 103), [0]⟩,
  ⟨.mv (.tmp 0), none, (some 104), [0]⟩,
  ⟨.build [(.bool false), (.bool false)] [], none, (some 105), []⟩,
  ⟨.nilchk (.tmp 103), none, (some 106), [103]⟩,
  ⟨.faddr 1 (.tmp 106), none, (some 107), [106]⟩,
  ⟨.store 1 (.tmp 107) (.lit (.int .u8 5)), none, none, [107]⟩,
  ⟨.nilchk (.tmp 104), none, (some 108), [104]⟩,
  ⟨.faddr 2 (.tmp 108), none, (some 109), [108]⟩,
  ⟨.store 2 (.tmp 109) (.tmp 105), none, none, [109, 105]⟩]
def m22r45 : List MOper := [⟨.bin .eql .other (.tmp 5) (.lit (.int .u8 14)), none, (some 111), [5]⟩,
  ⟨.mv (.tmp 111), none, (some 110), [111]⟩]
def m22r46 : List MOper := [⟨.mv (.tmp 0), none, (some 112), [0]⟩,
  ⟨.nilchk (.tmp 112), none, (some 113), [112]⟩,
  ⟨.faddr 1 (.tmp 113), none, (some 114), [113]⟩,
  ⟨.store 1 (.tmp 114) (.lit (.int .u8 3)), none, none, [114]⟩]
def m22r47 : List MOper := [⟨.mv (.tmp 0), none, (some 115), [0]⟩,
  ⟨.nilchk (.tmp 115), none, (some 116), [115]⟩,
  ⟨.faddr 9 (.tmp 116), none, (some 117), [116]⟩,
  ⟨.load none (.tmp 117), none, (some 118), [117]⟩,
  ⟨.bin .add .other (.tmp 118) (.lit (.int .i64 1)), none, (some 119), [118]⟩,
  ⟨.nilchk (.tmp 115), none, (some 120), [115]⟩,
  ⟨.faddr 9 (.tmp 120), none, (some 121), [120]⟩,
  ⟨.store 1 (.tmp 121) (.tmp 119), none, none, [121, 119]⟩]
def m22 : MFunc := ⟨122, [],
  (.seq (.region m22r0 [0, 3])
  (.seq (.region m22r1 [0, 3, 5])
  (.block 0 (.seq (.region m22r2 [0, 3, 5, 6])
  (.cond (.tmp 6)
  (.region m22r3 [])
  (.seq (.region m22r4 [0, 3, 5, 11])
  (.cond (.tmp 11)
  (.region m22r5 [])
  (.seq (.region m22r6 [0, 3, 5, 16])
  (.cond (.tmp 16)
  (.dregion m22r7 m22r8 [m22r9, m22r10, m22r11, m22r12, [], [], []] [])
  (.seq (.region m22r13 [0, 3, 5, 26])
  (.cond (.tmp 26)
  (.dregion m22r14 m22r15 [m22r16, m22r17, m22r18, m22r19, [], [], []] [])
  (.seq (.seq (.region m22r20 [0, 3, 5, 36])
  (.cond (.tmp 36)
  .skip
  (.region m22r21 [0, 3, 5, 36])))
  (.cond (.tmp 36)
  (.region m22r22 [])
  (.seq (.region m22r23 [0, 3, 5, 45])
  (.cond (.tmp 45)
  (.region m22r24 [])
  (.seq (.region m22r25 [0, 3, 5, 51])
  (.cond (.tmp 51)
  (.region m22r26 [])
  (.seq (.region m22r27 [0, 3, 5, 57])
  (.cond (.tmp 57)
  (.region m22r28 [])
  (.seq (.seq (.region m22r29 [0, 3, 5, 63])
  (.cond (.tmp 63)
  .skip
  (.region m22r30 [0, 3, 5, 63])))
  (.cond (.tmp 63)
  (.dregion m22r31 m22r32 [m22r33, m22r34, m22r35, [], []] [])
  (.seq (.region m22r36 [0, 5, 75])
  (.cond (.tmp 75)
  (.region m22r37 [])
  (.seq (.region m22r38 [0, 5, 80])
  (.cond (.tmp 80)
  (.seq (.region m22r39 [0])
  (.region m22r40 []))
  (.seq (.region m22r41 [0, 5, 96])
  (.cond (.tmp 96)
  (.region m22r42 [])
  (.seq (.region m22r43 [0, 5, 101])
  (.cond (.tmp 101)
  (.region m22r44 [])
  (.seq (.region m22r45 [0, 110])
  (.cond (.tmp 110)
  (.seq (.region m22r46 [0])
  (.region m22r47 []))
  .skip)))))))))))))))))))))))))))))))⟩
def h22 : List RH := [⟨[0, 3], 0, false, []⟩, ⟨[0, 3, 5], 0, false, []⟩, ⟨[0, 3, 5, 6], 0, false, []⟩, ⟨[], 0, false, []⟩, ⟨[0, 3, 5, 11], 0, false, []⟩, ⟨[], 0, false, []⟩, ⟨[0, 3, 5, 16], 0, false, []⟩, ⟨[], 4, false, []⟩, ⟨[0, 3, 5, 26], 0, false, []⟩, ⟨[], 4, false, []⟩, ⟨[0, 3, 5, 36], 0, false, []⟩, ⟨[0, 3, 5, 36], 0, false, []⟩, ⟨[], 0, false, []⟩, ⟨[0, 3, 5, 45], 0, false, []⟩, ⟨[], 0, false, []⟩, ⟨[0, 3, 5, 51], 0, false, []⟩, ⟨[], 0, false, []⟩, ⟨[0, 3, 5, 57], 0, false, []⟩, ⟨[], 0, false, []⟩, ⟨[0, 3, 5, 63], 0, false, []⟩, ⟨[0, 3, 5, 63], 0, false, []⟩, ⟨[], 6, false, []⟩, ⟨[0, 5, 75], 0, false, []⟩, ⟨[], 0, false, []⟩, ⟨[0, 5, 80], 0, false, []⟩, ⟨[0], 0, false, []⟩, ⟨[], 0, false, []⟩, ⟨[0, 5, 96], 0, false, []⟩, ⟨[], 0, false, []⟩, ⟨[0, 5, 101], 0, false, []⟩, ⟨[], 0, false, []⟩, ⟨[0, 110], 0, false, []⟩, ⟨[0], 0, false, []⟩, ⟨[], 0, false, []⟩]
theorem m22_ok : cmpFn Try.prog 22 h22 = some m22 := by kernel_rfl

/- dialtone/dialtoneref33.find -/
def m23r0 : List MOper := [⟨.mv (.lit (.int .i64 0)), none, (some 4), []⟩,
  ⟨.mv (.lit (.bool false)), none, (some 5), []⟩]
def m23r1 : List MOper := [⟨.mv (.lit (.int .i64 0)), none, (some 6), []⟩]
def m23r2 : List MOper := [⟨.mv (.tmp 6), none, (some 7), [6]⟩,
  ⟨.mv (.tmp 0), none, (some 8), [0]⟩,
  ⟨.len 1 (.tmp 8), none, (some 9), [8]⟩,
  ⟨.bin .lss .other (.tmp 7) (.tmp 9), none, (some 10), [7, 9]⟩]
def m23r3 : List MOper := [⟨.mv (.tmp 0), none, (some 13), [0]⟩,
  ⟨.mv (.tmp 6), none, (some 14), [6]⟩,
  ⟨.iaddr 10 (.tmp 13) (.tmp 14), none, (some 15), [13, 14]⟩,
  ⟨.faddr 0 (.tmp 15), none, (some 16), [15]⟩,
  ⟨.load none (.tmp 16), none, (some 17), [16]⟩,
  ⟨.mv (.tmp 1), none, (some 18), [1]⟩,
  ⟨.bin .geq .other (.tmp 17) (.tmp 18), none, (some 19), [17, 18]⟩]
def m23r4 : List MOper := [⟨.mv (.tmp 6), none, (some 20), [6]⟩,
  ⟨.mv (.tmp 0), none, (some 21), [0]⟩,
  ⟨.mv (.tmp 6), none, (some 22), [6]⟩,
  ⟨.iaddr 10 (.tmp 21) (.tmp 22), none, (some 23), [21, 22]⟩,
  ⟨.faddr 0 (.tmp 23), none, (some 24), [23]⟩,
  ⟨.load none (.tmp 24), none, (some 25), [24]⟩,
  ⟨.mv (.tmp 1), none, (some 26), [1]⟩,
  ⟨.bin .eql .other (.tmp 25) (.tmp 26), none, (some 27), [25, 26]⟩,
  ⟨.mv (.tmp 20), none, (some 4), [20]⟩]
def m23r5 : List MOper := [⟨.mv (.tmp 27), none, (some 5), [27]⟩]
def m23r6 : List MOper := [⟨.mv (.tmp 6), none, (some 11), [6]⟩,
  ⟨.bin .add .other (.tmp 11) (.lit (.int .i64 1)), none, (some 12), [11]⟩,
  ⟨.mv (.tmp 12), none, (some 6), [12]⟩]
def m23l7 : MCode := (.seq (.seq (.region m23r2 [0, 1, 6, 10])
  (.cond (.tmp 10)
  .skip
  (.exit 0)))
  (.seq (.block 1 (.seq (.region m23r3 [0, 1, 6, 19])
  (.cond (.tmp 19)
  (.seq (.dregion m23r4 m23r5 [] [4, 5])
  .ret)
  .skip)))
  (.region m23r6 [0, 1, 6])))
def m23r8 : List MOper := [⟨.mv (.tmp 0), none, (some 28), [0]⟩,
  ⟨.len 1 (.tmp 28), none, (some 29), [28]⟩,
  ⟨.mv (.tmp 29), none, (some 4), [29]⟩,
  ⟨.mv (.lit (.bool false)), none, (some 5), []⟩]
def m23 : MFunc := ⟨30, [.tmp 4, .tmp 5],
  (.seq (.region m23r0 [0, 1])
  (.seq (.seq (.region m23r1 [0, 1, 6])
  (.block 0 (.loop [0, 1, 6] m23l7)))
  (.seq (.region m23r8 [4, 5])
  .ret)))⟩
def h23 : List RH := [⟨[0, 1], 0, false, []⟩, ⟨[0, 1, 6], 0, false, []⟩, ⟨[0, 1, 6], 0, false, []⟩, ⟨[0, 1, 6, 10], 0, false, []⟩, ⟨[0, 1, 6, 19], 0, false, []⟩, ⟨[4, 5], 9, false, []⟩, ⟨[0, 1, 6], 0, false, []⟩, ⟨[4, 5], 0, false, []⟩]
theorem m23_ok : cmpFn Try.prog 23 h23 = some m23 := by kernel_rfl

/- dialtone/dialtoneref33.Apply -/
def m24r0 : List MOper := [⟨.box 10 (.tmp 0), none, (some 2), [0]⟩,
  ⟨.box 5 (.tmp 1), none, (some 3), [1]⟩,
  ⟨.zbox [(.str []), (.int .u8 0), (.bool false), (.bool false), (.int .i64 0), (.int .i64 0), (.int .i64 0), (.int .i64 0), (.int .i64 0), (.int .i64 0)], none, (some 4), []⟩,
  ⟨.mv (.lit (.bool false)), none, (some 5), []⟩]
def m24r1 : List MOper := [⟨.load (some 5) (.tmp 3), none, (some 8), [3]⟩,
  ⟨.call 34 [(.tmp 8)], none, (some 9), [8]⟩,
  ⟨.un .not (.tmp 9), none, (some 10), [9]⟩]
def m24r2 : List MOper := [⟨.load (some 10) (.tmp 2), none, (some 11), [2]⟩,
  ⟨.store 10 (.tmp 4) (.tmp 11), none, none, [4, 11]⟩,
  ⟨.mv (.lit (.bool false)), none, (some 5), []⟩]
def m24r3 : List MOper := [⟨.faddr 0 (.tmp 3), none, (some 12), [3]⟩,
  ⟨.load none (.tmp 12), none, (some 13), [12]⟩,
  ⟨.bin .eql .other (.tmp 13) (.lit (.int .u8 1)), none, (some 14), [13]⟩]
def m24r4 : List MOper := [⟨.load (some 10) (.tmp 2), none, (some 15), [2]⟩,
  ⟨.build [(.str []), (.int .u8 0), (.bool false), (.bool false), (.int .i64 0), (.int .i64 0), (.int .i64 0), (.int .i64 0), (.int .i64 0), (.int .i64 0)] [], none, (some 16), []⟩,
  ⟨.bin .neq (.flat [2, 0, 1, 1, 0, 0, 0, 0, 0, 0]) (.tmp 15) (.tmp 16), none, (some 17), [15, 16]⟩]
def m24r5 : List MOper := [⟨.load (some 10) (.tmp 2), none, (some 18), [2]⟩,
  ⟨.store 10 (.tmp 4) (.tmp 18), none, none, [4, 18]⟩,
  ⟨.mv (.lit (.bool false)), none, (some 5), []⟩]
def m24r6 : List MOper := [⟨.faddr 1 (.tmp 3), none, (some 19), [3]⟩,
  ⟨.load none (.tmp 19), none, (some 20), [19]⟩,
  ⟨.faddr 4 (.tmp 3), none, (some 21), [3]⟩,
  ⟨.load none (.tmp 21), none, (some 22), [21]⟩,
  ⟨.faddr 4 (.tmp 3), none, (some 23), [3]⟩,
  ⟨.load none (.tmp 23), none, (some 24), [23]⟩,
  ⟨.build [(.str []), (.int .u8 0), (.bool false), (.bool false), (.int .i64 0), (.int .i64 0), (.int .i64 0), (.int .i64 0), (.int .i64 0), (.int .i64 0)] [(0, 1, (.tmp 20)), (1, 1, (.lit (.int .u8 1))), (5, 1, (.tmp 22)), (6, 1, (.tmp 24)), (7, 1, (.lit (.int .i64 (-1)))), (8, 1, (.lit (.int .i64 (-1))))], none, (some 25), [20, 22, 24]⟩,
  ⟨.store 10 (.tmp 4) (.tmp 25), none, none, [4, 25]⟩,
  ⟨.mv (.lit (.bool true)), none, (some 5), []⟩]
def m24r7 : List MOper := [⟨.faddr 1 (.tmp 3), none, (some 26), [3]⟩,
  ⟨.load none (.tmp 26), none, (some 27), [26]⟩,
  ⟨.faddr 0 (.tmp 2), none, (some 28), [2]⟩,
  ⟨.load none (.tmp 28), none, (some 29), [28]⟩,
  ⟨.bin .neq .other (.tmp 27) (.tmp 29), none, (some 30), [27, 29]⟩,
  ⟨.mv (.tmp 30), none, (some 31), [30]⟩,
  ⟨.faddr 4 (.tmp 3), (some (31, false)), (some 32), [3]⟩,
  ⟨.load none (.tmp 32), (some (31, false)), (some 33), [32]⟩,
  ⟨.faddr 6 (.tmp 2), (some (31, false)), (some 34), [2]⟩,
  ⟨.load none (.tmp 34), (some (31, false)), (some 35), [34]⟩,
  ⟨.bin .lss .other (.tmp 33) (.tmp 35), (some (31, false)), (some 36), [33, 35]⟩,
  ⟨.pick (.tmp 31) (.lit (.bool true)) (.tmp 36), none, (some 37), [31, 36]⟩]
def m24r8 : List MOper := [⟨.load (some 10) (.tmp 2), none, (some 38), [2]⟩,
  ⟨.store 10 (.tmp 4) (.tmp 38), none, none, [4, 38]⟩,
  ⟨.mv (.lit (.bool false)), none, (some 5), []⟩]
def m24r9 : List MOper := [⟨.load (some 10) (.tmp 2), none, (some 40), [2]⟩,
  ⟨.load (some 5) (.tmp 3), none, (some 41), [3]⟩,
  ⟨.call 35 [(.tmp 40), (.tmp 41)], none, (some 42), [40, 41]⟩,
  ⟨.mv (.tmp 42), none, (some 39), [42]⟩,
  ⟨.ext 0 (.tmp 39), none, (some 43), [39]⟩,
  ⟨.ext 1 (.tmp 39), none, (some 44), [39]⟩,
  ⟨.zbox [(.str []), (.int .u8 0), (.bool false), (.bool false), (.int .i64 0), (.int .i64 0), (.int .i64 0), (.int .i64 0), (.int .i64 0), (.int .i64 0)], none, (some 6), []⟩,
  ⟨.store 10 (.tmp 6) (.tmp 43), none, none, [6, 43]⟩,
  ⟨.mv (.tmp 44), none, (some 7), [44]⟩]
def m24r10 : List MOper := [⟨.mv (.tmp 7), none, (some 45), [7]⟩,
  ⟨.un .not (.tmp 45), none, (some 46), [45]⟩]
def m24r11 : List MOper := [⟨.load (some 10) (.tmp 2), none, (some 47), [2]⟩,
  ⟨.store 10 (.tmp 4) (.tmp 47), none, none, [4, 47]⟩,
  ⟨.mv (.lit (.bool false)), none, (some 5), []⟩]
def m24r12 : List MOper := [⟨.faddr 4 (.tmp 3), none, (some 48), [3]⟩,
  ⟨.load none (.tmp 48), none, (some 49), [48]⟩,
  ⟨.faddr 6 (.tmp 6), none, (some 50), [6]⟩,
  ⟨.store 1 (.tmp 50) (.tmp 49), none, none, [50, 49]⟩]
def m24r13 : List MOper := [⟨.load (some 10) (.tmp 6), none, (some 51), [6]⟩,
  ⟨.store 10 (.tmp 4) (.tmp 51), none, none, [4, 51]⟩,
  ⟨.mv (.lit (.bool true)), none, (some 5), []⟩]
def m24 : MFunc := ⟨52, [.cell 4 (some 10), .tmp 5],
  (.seq (.region m24r0 [2, 3, 4])
  (.seq (.seq (.region m24r1 [2, 3, 4, 10])
  (.cond (.tmp 10)
  (.seq (.region m24r2 [4, 5])
  .ret)
  .skip))
  (.seq (.seq (.region m24r3 [2, 3, 4, 14])
  (.cond (.tmp 14)
  (.seq (.seq (.region m24r4 [2, 3, 4, 17])
  (.cond (.tmp 17)
  (.seq (.region m24r5 [4, 5])
  .ret)
  .skip))
  (.seq (.region m24r6 [4, 5])
  .ret))
  .skip))
  (.seq (.seq (.region m24r7 [2, 3, 4, 37])
  (.cond (.tmp 37)
  (.seq (.region m24r8 [4, 5])
  .ret)
  .skip))
  (.seq (.region m24r9 [2, 3, 4, 6, 7])
  (.seq (.seq (.region m24r10 [2, 3, 4, 6, 46])
  (.cond (.tmp 46)
  (.seq (.region m24r11 [4, 5])
  .ret)
  .skip))
  (.seq (.region m24r12 [4, 6])
  (.seq (.region m24r13 [4, 5])
  .ret))))))))⟩
def h24 : List RH := [⟨[2, 3, 4], 0, false, []⟩, ⟨[2, 3, 4, 10], 0, false, []⟩, ⟨[4, 5], 0, false, []⟩, ⟨[2, 3, 4, 14], 0, false, []⟩, ⟨[2, 3, 4, 17], 0, false, []⟩, ⟨[4, 5], 0, false, []⟩, ⟨[4, 5], 0, false, []⟩, ⟨[2, 3, 4, 37], 0, false, []⟩, ⟨[4, 5], 0, false, []⟩, ⟨[2, 3, 4, 6, 7], 0, false, []⟩, ⟨[2, 3, 4, 6, 46], 0, false, []⟩, ⟨[4, 5], 0, false, []⟩, ⟨[4, 6], 0, false, []⟩, ⟨[4, 5], 0, false, []⟩]
theorem m24_ok : cmpFn Try.prog 24 h24 = some m24 := by kernel_rfl

/- dialtone/callmodel.Open -/
def m25r0 : List MOper := [⟨.box 10 (.tmp 0), none, (some 1), [0]⟩,
  ⟨.mv (.lit (.bool false)), none, (some 2), []⟩]
def m25r1 : List MOper := [⟨.faddr 1 (.tmp 1), none, (some 3), [1]⟩,
  ⟨.load none (.tmp 3), none, (some 4), [3]⟩,
  ⟨.bin .gtr .other (.tmp 4) (.lit (.int .u8 0)), none, (some 5), [4]⟩,
  ⟨.mv (.tmp 5), none, (some 6), [5]⟩,
  ⟨.faddr 1 (.tmp 1), (some (6, true)), (some 7), [1]⟩,
  ⟨.load none (.tmp 7), (some (6, true)), (some 8), [7]⟩,
  ⟨.bin .lss .other (.tmp 8) (.lit (.int .u8 8)), (some (6, true)), (some 9), [8]⟩,
  ⟨.pick (.tmp 6) (.tmp 9) (.lit (.bool false)), none, (some 10), [6, 9]⟩,
  ⟨.mv (.tmp 10), none, (some 2), [10]⟩]
def m25 : MFunc := ⟨11, [.tmp 2],
  (.seq (.region m25r0 [1])
  (.seq (.region m25r1 [2])
  .ret))⟩
def h25 : List RH := [⟨[1], 0, false, []⟩, ⟨[2], 0, false, []⟩]
theorem m25_ok : cmpFn Try.prog 25 h25 = some m25 := by kernel_rfl

/- dialtone/callmodel.in -/
def m26r0 : List MOper := [⟨.box 10 (.tmp 0), none, (some 2), [0]⟩,
  ⟨.mv (.lit (.bool false)), none, (some 4), []⟩]
def m26r1 : List MOper := [⟨.mv (.tmp 1), none, (some 5), [1]⟩,
  ⟨.faddr 1 (.tmp 2), none, (some 6), [2]⟩,
  ⟨.load none (.tmp 6), none, (some 7), [6]⟩,
  ⟨.call 36 [(.tmp 5), (.tmp 7)], none, (some 8), [5, 7]⟩,
  ⟨.mv (.tmp 8), none, (some 4), [8]⟩]
def m26 : MFunc := ⟨9, [.tmp 4],
  (.seq (.region m26r0 [1, 2])
  (.seq (.region m26r1 [4])
  .ret))⟩
def h26 : List RH := [⟨[1, 2], 0, false, []⟩, ⟨[4], 0, false, []⟩]
theorem m26_ok : cmpFn Try.prog 26 h26 = some m26 := by kernel_rfl

/- dialtone/callmodel.early -/
def m27r0 : List MOper := [⟨.box 10 (.tmp 0), none, (some 1), [0]⟩,
  ⟨.mv (.lit (.bool false)), none, (some 2), []⟩]
def m27r1 : List MOper := [⟨.load (some 10) (.tmp 1), none, (some 3), [1]⟩,
  ⟨.mkfrz [(.int .u8 0)] 3 [(0, (.lit (.int .u8 1))), (1, (.lit (.int .u8 2))), (2, (.lit (.int .u8 6)))], none, (some 4), []⟩,
  ⟨.call 26 [(.tmp 3), (.tmp 4)], none, (some 5), [3, 4]⟩,
  ⟨.mv (.tmp 5), none, (some 2), [5]⟩]
def m27 : MFunc := ⟨6, [.tmp 2],
  (.seq (.region m27r0 [1])
  (.seq (.region m27r1 [2])
  .ret))⟩
def h27 : List RH := [⟨[1], 0, false, []⟩, ⟨[2], 0, false, []⟩]
theorem m27_ok : cmpFn Try.prog 27 h27 = some m27 := by kernel_rfl

/- dialtone/dialtoneref33.early -/
def m28r0 : List MOper := [⟨.box 10 (.tmp 0), none, (some 1), [0]⟩,
  ⟨.mv (.lit (.bool false)), none, (some 2), []⟩]
def m28r1 : List MOper := [⟨.faddr 1 (.tmp 1), none, (some 3), [1]⟩,
  ⟨.load none (.tmp 3), none, (some 4), [3]⟩,
  ⟨.bin .eql .other (.tmp 4) (.lit (.int .u8 1)), none, (some 5), [4]⟩,
  ⟨.mv (.tmp 5), none, (some 6), [5]⟩,
  ⟨.faddr 1 (.tmp 1), (some (6, false)), (some 7), [1]⟩,
  ⟨.load none (.tmp 7), (some (6, false)), (some 8), [7]⟩,
  ⟨.bin .eql .other (.tmp 8) (.lit (.int .u8 2)), (some (6, false)), (some 9), [8]⟩,
  ⟨.pick (.tmp 6) (.lit (.bool true)) (.tmp 9), none, (some 10), [6, 9]⟩,
  ⟨.mv (.tmp 10), none, (some 11), [10]⟩,
  ⟨.faddr 1 (.tmp 1), (some (11, false)), (some 12), [1]⟩,
  ⟨.load none (.tmp 12), (some (11, false)), (some 13), [12]⟩,
  ⟨.bin .eql .other (.tmp 13) (.lit (.int .u8 6)), (some (11, false)), (some 14), [13]⟩,
  ⟨.pick (.tmp 11) (.lit (.bool true)) (.tmp 14), none, (some 15), [11, 14]⟩,
  ⟨.mv (.tmp 15), none, (some 2), [15]⟩]
def m28 : MFunc := ⟨16, [.tmp 2],
  (.seq (.region m28r0 [1])
  (.seq (.region m28r1 [2])
  .ret))⟩
def h28 : List RH := [⟨[1], 0, false, []⟩, ⟨[2], 0, false, []⟩]
theorem m28_ok : cmpFn Try.prog 28 h28 = some m28 := by kernel_rfl

/- dialtone/dialtoneref33.Open -/
def m29r0 : List MOper := [⟨.box 10 (.tmp 0), none, (some 1), [0]⟩,
  ⟨.mv (.lit (.bool false)), none, (some 2), []⟩]
def m29r1 : List MOper := [⟨.faddr 1 (.tmp 1), none, (some 3), [1]⟩,
  ⟨.load none (.tmp 3), none, (some 4), [3]⟩,
  ⟨.bin .geq .other (.tmp 4) (.lit (.int .u8 1)), none, (some 5), [4]⟩,
  ⟨.mv (.tmp 5), none, (some 6), [5]⟩,
  ⟨.faddr 1 (.tmp 1), (some (6, true)), (some 7), [1]⟩,
  ⟨.load none (.tmp 7), (some (6, true)), (some 8), [7]⟩,
  ⟨.bin .leq .other (.tmp 8) (.lit (.int .u8 7)), (some (6, true)), (some 9), [8]⟩,
  ⟨.pick (.tmp 6) (.tmp 9) (.lit (.bool false)), none, (some 10), [6, 9]⟩,
  ⟨.mv (.tmp 10), none, (some 2), [10]⟩]
def m29 : MFunc := ⟨11, [.tmp 2],
  (.seq (.region m29r0 [1])
  (.seq (.region m29r1 [2])
  .ret))⟩
def h29 : List RH := [⟨[1], 0, false, []⟩, ⟨[2], 0, false, []⟩]
theorem m29_ok : cmpFn Try.prog 29 h29 = some m29 := by kernel_rfl

/- slices.pdqsortCmpFunc[string] -/
def m30r0 : List MOper := [⟨.mv (.lit (.bool true)), none, (some 10), []⟩]
def m30r1 : List MOper := [⟨.mv (.lit (.bool true)), none, (some 11), []⟩]
def m30r2 : List MOper := [⟨.mv (.tmp 2), none, (some 21), [2]⟩,
  ⟨.mv (.tmp 1), none, (some 22), [1]⟩,
  ⟨.bin .sub .other (.tmp 21) (.tmp 22), none, (some 23), [21, 22]⟩,
  ⟨.mv (.tmp 23), none, (some 12), [23]⟩]
def m30r3 : List MOper := [⟨.mv (.tmp 12), none, (some 24), [12]⟩,
  ⟨.bin .leq .other (.tmp 24) (.lit (.int .i64 12)), none, (some 25), [24]⟩]
def m30r4 : List MOper := [⟨.mv (.tmp 0), none, (some 26), [0]⟩,
  ⟨.mv (.tmp 1), none, (some 27), [1]⟩,
  ⟨.mv (.tmp 2), none, (some 28), [2]⟩,
  ⟨.mv (.tmp 4), none, (some 29), [4]⟩,
  ⟨.call 37 [(.tmp 26), (.tmp 27), (.tmp 28), (.tmp 29)], none, (some 30), [26, 27, 28, 29]⟩]
def m30r5 : List MOper := [⟨.mv (.tmp 3), none, (some 31), [3]⟩,
  ⟨.bin .eql .other (.tmp 31) (.lit (.int .i64 0)), none, (some 32), [31]⟩]
def m30r6 : List MOper := [⟨.mv (.tmp 0), none, (some 33), [0]⟩,
  ⟨.mv (.tmp 1), none, (some 34), [1]⟩,
  ⟨.mv (.tmp 2), none, (some 35), [2]⟩,
  ⟨.mv (.tmp 4), none, (some 36), [4]⟩,
  ⟨.call 38 [(.tmp 33), (.tmp 34), (.tmp 35), (.tmp 36)], none, (some 37), [33, 34, 35, 36]⟩]
def m30r7 : List MOper := [⟨.mv (.tmp 10), none, (some 38), [10]⟩,
  ⟨.un .not (.tmp 38), none, (some 39), [38]⟩]
def m30r8 : List MOper := [⟨.mv (.tmp 0), none, (some 40), [0]⟩,
  ⟨.mv (.tmp 1), none, (some 41), [1]⟩,
  ⟨.mv (.tmp 2), none, (some 42), [2]⟩,
  ⟨.mv (.tmp 4), none, (some 43), [4]⟩,
  ⟨.call 39 [(.tmp 40), (.tmp 41), (.tmp 42), (.tmp 43)], none, (some 44), [40, 41, 42, 43]⟩]
def m30r9 : List MOper := [⟨.mv (.tmp 3), none, (some 45), [3]⟩,
  ⟨.bin .sub .other (.tmp 45) (.lit (.int .i64 1)), none, (some 46), [45]⟩,
  ⟨.mv (.tmp 46), none, (some 3), [46]⟩]
def m30r10 : List MOper := [⟨.mv (.tmp 0), none, (some 48), [0]⟩,
  ⟨.mv (.tmp 1), none, (some 49), [1]⟩,
  ⟨.mv (.tmp 2), none, (some 50), [2]⟩,
  ⟨.mv (.tmp 4), none, (some 51), [4]⟩,
  ⟨.call 40 [(.tmp 48), (.tmp 49), (.tmp 50), (.tmp 51)], none, (some 52), [48, 49, 50, 51]⟩,
  ⟨.mv (.tmp 52), none, (some 47), [52]⟩,
  ⟨.ext 0 (.tmp 47), none, (some 53), [47]⟩,
  ⟨.ext 1 (.tmp 47), none, (some 54), [47]⟩,
  ⟨.mv (.tmp 53), none, (some 13), [53]⟩,
  ⟨.mv (.tmp 54), none, (some 14), [54]⟩]
def m30r11 : List MOper := [⟨.mv (.tmp 14), none, (some 55), [14]⟩,
  ⟨.bin .eql .other (.tmp 55) (.lit (.int .i64 2)), none, (some 56), [55]⟩]
def m30r12 : List MOper := [⟨.mv (.tmp 0), none, (some 57), [0]⟩,
  ⟨.mv (.tmp 1), none, (some 58), [1]⟩,
  ⟨.mv (.tmp 2), none, (some 59), [2]⟩,
  ⟨.mv (.tmp 4), none, (some 60), [4]⟩,
  ⟨.call 41 [(.tmp 57), (.tmp 58), (.tmp 59), (.tmp 60)], none, (some 61), [57, 58, 59, 60]⟩]
def m30r13 : List MOper := [⟨.mv (.tmp 2), none, (some 62), [2]⟩,
  ⟨.bin .sub .other (.tmp 62) (.lit (.int .i64 1)), none, (some 63), [62]⟩,
  ⟨.mv (.tmp 13), none, (some 64), [13]⟩,
  ⟨.mv (.tmp 1), none, (some 65), [1]⟩,
  ⟨.bin .sub .other (.tmp 64) (.tmp 65), none, (some 66), [64, 65]⟩,
  ⟨.bin .sub .other (.tmp 63) (.tmp 66), none, (some 67), [63, 66]⟩,
  ⟨.mv (.tmp 67), none, (some 13), [67]⟩]
def m30r14 : List MOper := [⟨.mv (.lit (.int .i64 1)), none, (some 14), []⟩]
def m30r15 : List MOper := [⟨.mv (.tmp 10), none, (some 68), [10]⟩,
  ⟨.mv (.tmp 68), none, (some 69), [68]⟩,
  ⟨.mv (.tmp 11), (some (69, true)), (some 70), [11]⟩,
  ⟨.pick (.tmp 69) (.tmp 70) (.lit (.bool false)), none, (some 71), [69, 70]⟩,
  ⟨.mv (.tmp 71), none, (some 72), [71]⟩,
  ⟨.mv (.tmp 14), (some (72, true)), (some 73), [14]⟩,
  ⟨.bin .eql .other (.tmp 73) (.lit (.int .i64 1)), (some (72, true)), (some 74), [73]⟩,
  ⟨.pick (.tmp 72) (.tmp 74) (.lit (.bool false)), none, (some 75), [72, 74]⟩]
def m30r16 : List MOper := [⟨.mv (.tmp 0), none, (some 76), [0]⟩,
  ⟨.mv (.tmp 1), none, (some 77), [1]⟩,
  ⟨.mv (.tmp 2), none, (some 78), [2]⟩,
  ⟨.mv (.tmp 4), none, (some 79), [4]⟩,
  ⟨.call 42 [(.tmp 76), (.tmp 77), (.tmp 78), (.tmp 79)], none, (some 80), [76, 77, 78, 79]⟩]
def m30r17 : List MOper := [⟨.mv (.tmp 1), none, (some 81), [1]⟩,
  ⟨.bin .gtr .other (.tmp 81) (.lit (.int .i64 0)), none, (some 82), [81]⟩,
  ⟨.mv (.tmp 82), none, (some 83), [82]⟩,
  ⟨.mv (.tmp 4), (some (83, true)), (some 84), [4]⟩,
  ⟨.mv (.tmp 0), (some (83, true)), (some 85), [0]⟩,
  ⟨.mv (.tmp 1), (some (83, true)), (some 86), [1]⟩,
  ⟨.bin .sub .other (.tmp 86) (.lit (.int .i64 1)), (some (83, true)), (some 87), [86]⟩,
  ⟨.iaddr 1 (.tmp 85) (.tmp 87), (some (83, true)), (some 88), [85, 87]⟩,
  ⟨.load none (.tmp 88), (some (83, true)), (some 89), [88]⟩,
  ⟨.mv (.tmp 0), (some (83, true)), (some 90), [0]⟩,
  ⟨.mv (.tmp 13), (some (83, true)), (some 91), [13]⟩,
  ⟨.iaddr 1 (.tmp 90) (.tmp 91), (some (83, true)), (some 92), [90, 91]⟩,
  ⟨.load none (.tmp 92), (some (83, true)), (some 93), [92]⟩]
def m30r18 : List MOper := [⟨.callv (.tmp 84) [(.tmp 89), (.tmp 93)], (some (83, true)), (some 94), [84, 89, 93]⟩,
  ⟨.bin .lss .other (.tmp 94) (.lit (.int .i64 0)), (some (83, true)), (some 95), [94]⟩,
  ⟨.un .not (.tmp 95), (some (83, true)), (some 96), [95]⟩,
  ⟨.pick (.tmp 83) (.tmp 96) (.lit (.bool false)), none, (some 97), [83, 96]⟩]
def m30r19 : List MOper := [⟨.mv (.tmp 0), none, (some 98), [0]⟩,
  ⟨.mv (.tmp 1), none, (some 99), [1]⟩,
  ⟨.mv (.tmp 2), none, (some 100), [2]⟩,
  ⟨.mv (.tmp 13), none, (some 101), [13]⟩,
  ⟨.mv (.tmp 4), none, (some 102), [4]⟩,
  ⟨.call 43 [(.tmp 98), (.tmp 99), (.tmp 100), (.tmp 101), (.tmp 102)], none, (some 103), [98, 99, 100, 101, 102]⟩,
  ⟨.mv (.tmp 103), none, (some 15), [103]⟩]
def m30r20 : List MOper := [⟨.mv (.tmp 15), none, (some 104), [15]⟩,
  ⟨.mv (.tmp 104), none, (some 1), [104]⟩]
def m30r21 : List MOper := [⟨.mv (.tmp 0), none, (some 106), [0]⟩,
  ⟨.mv (.tmp 1), none, (some 107), [1]⟩,
  ⟨.mv (.tmp 2), none, (some 108), [2]⟩,
  ⟨.mv (.tmp 13), none, (some 109), [13]⟩,
  ⟨.mv (.tmp 4), none, (some 110), [4]⟩,
  ⟨.call 44 [(.tmp 106), (.tmp 107), (.tmp 108), (.tmp 109), (.tmp 110)], none, (some 111), [106, 107, 108, 109, 110]⟩,
  ⟨.mv (.tmp 111), none, (some 105), [111]⟩,
  ⟨.ext 0 (.tmp 105), none, (some 112), [105]⟩,
  ⟨.ext 1 (.tmp 105), none, (some 113), [105]⟩,
  ⟨.mv (.tmp 112), none, (some 16), [112]⟩,
  ⟨.mv (.tmp 113), none, (some 17), [113]⟩]
def m30r22 : List MOper := [⟨.mv (.tmp 17), none, (some 114), [17]⟩,
  ⟨.mv (.tmp 114), none, (some 11), [114]⟩]
def m30r23 : List MOper := [⟨.mv (.tmp 16), none, (some 115), [16]⟩,
  ⟨.mv (.tmp 1), none, (some 116), [1]⟩,
  ⟨.bin .sub .other (.tmp 115) (.tmp 116), none, (some 117), [115, 116]⟩,
  ⟨.mv (.tmp 2), none, (some 118), [2]⟩,
  ⟨.mv (.tmp 16), none, (some 119), [16]⟩,
  ⟨.bin .sub .other (.tmp 118) (.tmp 119), none, (some 120), [118, 119]⟩,
  ⟨.mv (.tmp 117), none, (some 18), [117]⟩,
  ⟨.mv (.tmp 120), none, (some 19), [120]⟩]
def m30r24 : List MOper := [⟨.mv (.tmp 12), none, (some 121), [12]⟩,
  ⟨.bin .quo .other (.tmp 121) (.lit (.int .i64 8)), none, (some 122), [121]⟩,
  ⟨.mv (.tmp 122), none, (some 20), [122]⟩]
def m30r25 : List MOper := [⟨.mv (.tmp 18), none, (some 123), [18]⟩,
  ⟨.mv (.tmp 19), none, (some 124), [19]⟩,
  ⟨.bin .lss .other (.tmp 123) (.tmp 124), none, (some 125), [123, 124]⟩]
def m30r26 : List MOper := [⟨.mv (.tmp 18), none, (some 126), [18]⟩,
  ⟨.mv (.tmp 20), none, (some 127), [20]⟩,
  ⟨.bin .geq .other (.tmp 126) (.tmp 127), none, (some 128), [126, 127]⟩,
  ⟨.mv (.tmp 128), none, (some 10), [128]⟩]
def m30r27 : List MOper := [⟨.mv (.tmp 0), none, (some 129), [0]⟩,
  ⟨.mv (.tmp 1), none, (some 130), [1]⟩,
  ⟨.mv (.tmp 16), none, (some 131), [16]⟩,
  ⟨.mv (.tmp 3), none, (some 132), [3]⟩,
  ⟨.mv (.tmp 4), none, (some 133), [4]⟩,
  ⟨.call 30 [(.tmp 129), (.tmp 130), (.tmp 131), (.tmp 132), (.tmp 133)], none, (some 134), [129, 130, 131, 132, 133]⟩]
def m30r28 : List MOper := [⟨.mv (.tmp 16), none, (some 135), [16]⟩,
  ⟨.bin .add .other (.tmp 135) (.lit (.int .i64 1)), none, (some 136), [135]⟩,
  ⟨.mv (.tmp 136), none, (some 1), [136]⟩]
def m30r29 : List MOper := [⟨.mv (.tmp 19), none, (some 137), [19]⟩,
  ⟨.mv (.tmp 20), none, (some 138), [20]⟩,
  ⟨.bin .geq .other (.tmp 137) (.tmp 138), none, (some 139), [137, 138]⟩,
  ⟨.mv (.tmp 139), none, (some 10), [139]⟩]
def m30r30 : List MOper := [⟨.mv (.tmp 0), none, (some 140), [0]⟩,
  ⟨.mv (.tmp 16), none, (some 141), [16]⟩,
  ⟨.bin .add .other (.tmp 141) (.lit (.int .i64 1)), none, (some 142), [141]⟩,
  ⟨.mv (.tmp 2), none, (some 143), [2]⟩,
  ⟨.mv (.tmp 3), none, (some 144), [3]⟩,
  ⟨.mv (.tmp 4), none, (some 145), [4]⟩,
  ⟨.call 30 [(.tmp 140), (.tmp 142), (.tmp 143), (.tmp 144), (.tmp 145)], none, (some 146), [140, 142, 143, 144, 145]⟩]
def m30r31 : List MOper := [⟨.mv (.tmp 16), none, (some 147), [16]⟩,
  ⟨.mv (.tmp 147), none, (some 2), [147]⟩]
def m30l32 : MCode := (.block 1 (.seq (.region m30r2 [0, 1, 2, 3, 4, 10, 11, 12])
  (.seq (.seq (.region m30r3 [0, 1, 2, 3, 4, 10, 11, 12, 25])
  (.cond (.tmp 25)
  (.seq (.region m30r4 [])
  .ret)
  .skip))
  (.seq (.seq (.region m30r5 [0, 1, 2, 3, 4, 10, 11, 12, 32])
  (.cond (.tmp 32)
  (.seq (.region m30r6 [])
  .ret)
  .skip))
  (.seq (.seq (.region m30r7 [0, 1, 2, 3, 4, 10, 11, 12, 39])
  (.cond (.tmp 39)
  (.seq (.region m30r8 [0, 1, 2, 3, 4, 10, 11, 12])
  (.region m30r9 [0, 1, 2, 3, 4, 10, 11, 12]))
  .skip))
  (.seq (.region m30r10 [0, 1, 2, 3, 4, 10, 11, 12, 13, 14])
  (.seq (.seq (.region m30r11 [0, 1, 2, 3, 4, 10, 11, 12, 13, 14, 56])
  (.cond (.tmp 56)
  (.seq (.region m30r12 [0, 1, 2, 3, 4, 10, 11, 12, 13])
  (.seq (.region m30r13 [0, 1, 2, 3, 4, 10, 11, 12, 13])
  (.region m30r14 [0, 1, 2, 3, 4, 10, 11, 12, 13, 14])))
  .skip))
  (.seq (.seq (.region m30r15 [0, 1, 2, 3, 4, 10, 11, 12, 13, 75])
  (.cond (.tmp 75)
  (.seq (.region m30r16 [0, 1, 2, 3, 4, 10, 11, 12, 13, 80])
  (.cond (.tmp 80)
  .ret
  .skip))
  .skip))
  (.seq (.seq (.dregion m30r17 m30r18 [] [0, 1, 2, 3, 4, 10, 11, 12, 13, 97])
  (.cond (.tmp 97)
  (.seq (.region m30r19 [0, 2, 3, 4, 10, 11, 15])
  (.seq (.region m30r20 [0, 1, 2, 3, 4, 10, 11])
  (.exit 1)))
  .skip))
  (.seq (.region m30r21 [0, 1, 2, 3, 4, 12, 16, 17])
  (.seq (.region m30r22 [0, 1, 2, 3, 4, 11, 12, 16])
  (.seq (.region m30r23 [0, 1, 2, 3, 4, 11, 12, 16, 18, 19])
  (.seq (.region m30r24 [0, 1, 2, 3, 4, 11, 16, 18, 19, 20])
  (.seq (.region m30r25 [0, 1, 2, 3, 4, 11, 16, 18, 19, 20, 125])
  (.cond (.tmp 125)
  (.seq (.region m30r26 [0, 1, 2, 3, 4, 10, 11, 16])
  (.seq (.region m30r27 [0, 2, 3, 4, 10, 11, 16])
  (.region m30r28 [0, 1, 2, 3, 4, 10, 11])))
  (.seq (.region m30r29 [0, 1, 2, 3, 4, 10, 11, 16])
  (.seq (.region m30r30 [0, 1, 3, 4, 10, 11, 16])
  (.region m30r31 [0, 1, 2, 3, 4, 10, 11]))))))))))))))))))
def m30 : MFunc := ⟨148, [],
  (.seq (.region m30r0 [0, 1, 2, 3, 4, 10])
  (.seq (.region m30r1 [0, 1, 2, 3, 4, 10, 11])
  (.block 0 (.loop [0, 1, 2, 3, 4, 10, 11] m30l32))))⟩
def h30 : List RH := [⟨[0, 1, 2, 3, 4, 10], 0, false, []⟩, ⟨[0, 1, 2, 3, 4, 10, 11], 0, false, []⟩, ⟨[0, 1, 2, 3, 4, 10, 11], 0, false, []⟩, ⟨[0, 1, 2, 3, 4, 10, 11, 12], 0, false, []⟩, ⟨[0, 1, 2, 3, 4, 10, 11, 12, 25], 0, false, []⟩, ⟨[], 0, false, []⟩, ⟨[0, 1, 2, 3, 4, 10, 11, 12, 32], 0, false, []⟩, ⟨[], 0, false, []⟩, ⟨[0, 1, 2, 3, 4, 10, 11, 12, 39], 0, false, []⟩, ⟨[0, 1, 2, 3, 4, 10, 11, 12], 0, false, []⟩, ⟨[0, 1, 2, 3, 4, 10, 11, 12], 0, false, []⟩, ⟨[0, 1, 2, 3, 4, 10, 11, 12, 13, 14], 0, false, []⟩, ⟨[0, 1, 2, 3, 4, 10, 11, 12, 13, 14, 56], 0, false, []⟩, ⟨[0, 1, 2, 3, 4, 10, 11, 12, 13], 0, false, []⟩, ⟨[0, 1, 2, 3, 4, 10, 11, 12, 13], 0, false, []⟩, ⟨[0, 1, 2, 3, 4, 10, 11, 12, 13, 14], 0, false, []⟩, ⟨[0, 1, 2, 3, 4, 10, 11, 12, 13, 75], 0, false, []⟩, ⟨[0, 1, 2, 3, 4, 10, 11, 12, 13, 80], 0, false, []⟩, ⟨[0, 1, 2, 3, 4, 10, 11, 12, 13, 97], 13, false, []⟩, ⟨[0, 2, 3, 4, 10, 11, 15], 0, false, []⟩, ⟨[0, 1, 2, 3, 4, 10, 11], 0, false, []⟩, ⟨[0, 1, 2, 3, 4, 12, 16, 17], 0, false, []⟩, ⟨[0, 1, 2, 3, 4, 11, 12, 16], 0, false, []⟩, ⟨[0, 1, 2, 3, 4, 11, 12, 16, 18, 19], 0, false, []⟩, ⟨[0, 1, 2, 3, 4, 11, 16, 18, 19, 20], 0, false, []⟩, ⟨[0, 1, 2, 3, 4, 11, 16, 18, 19, 20, 125], 0, false, []⟩, ⟨[0, 1, 2, 3, 4, 10, 11, 16], 0, false, []⟩, ⟨[0, 2, 3, 4, 10, 11, 16], 0, false, []⟩, ⟨[0, 1, 2, 3, 4, 10, 11], 0, false, []⟩, ⟨[0, 1, 2, 3, 4, 10, 11, 16], 0, false, []⟩, ⟨[0, 1, 3, 4, 10, 11, 16], 0, false, []⟩, ⟨[0, 1, 2, 3, 4, 10, 11], 0, false, []⟩]
theorem m30_ok : cmpFn Try.prog 30 h30 = some m30 := by kernel_rfl

/- math/bits.Len -/
def m31r0 : List MOper := [⟨.mv (.lit (.int .i64 0)), none, (some 2), []⟩]
def m31r1 : List MOper := [⟨.mv (.tmp 0), none, (some 3), [0]⟩,
  ⟨.conv .u32 (.tmp 3), none, (some 4), [3]⟩,
  ⟨.call 45 [(.tmp 4)], none, (some 5), [4]⟩,
  ⟨.mv (.tmp 5), none, (some 2), [5]⟩]
def m31r2 : List MOper := [⟨.mv (.tmp 0), none, (some 6), [0]⟩,
  ⟨.call 46 [(.tmp 6)], none, (some 7), [6]⟩,
  ⟨.mv (.tmp 7), none, (some 2), [7]⟩]
def m31 : MFunc := ⟨8, [.tmp 2],
  (.seq (.region m31r0 [0])
  (.seq (.cond (.lit (.bool false))
  (.seq (.region m31r1 [2])
  .ret)
  .skip)
  (.seq (.region m31r2 [2])
  .ret)))⟩
def h31 : List RH := [⟨[0], 0, false, []⟩, ⟨[2], 0, false, []⟩, ⟨[2], 0, false, []⟩]
theorem m31_ok : cmpFn Try.prog 31 h31 = some m31 := by kernel_rfl

/- internal/bytealg.CompareString -/
def m32r0 : List MOper := [⟨.mv (.lit (.int .i64 0)), none, (some 4), []⟩]
def m32r1 : List MOper := [⟨.mv (.tmp 0), none, (some 5), [0]⟩,
  ⟨.mv (.tmp 1), none, (some 6), [1]⟩,
  ⟨.call 47 [(.tmp 5), (.tmp 6)], none, (some 7), [5, 6]⟩,
  ⟨.mv (.tmp 7), none, (some 4), [7]⟩]
def m32 : MFunc := ⟨8, [.tmp 4],
  (.seq (.region m32r0 [0, 1])
  (.seq (.region m32r1 [4])
  .ret))⟩
def h32 : List RH := [⟨[0, 1], 0, false, []⟩, ⟨[4], 0, false, []⟩]
theorem m32_ok : cmpFn Try.prog 32 h32 = some m32 := by kernel_rfl

/- dialtone/callmodel.end -/
def m33r0 : List MOper := [⟨.mv (.tmp 0), none, (some 6), [0]⟩,
  ⟨.mv (.tmp 0), none, (some 7), [0]⟩,
  ⟨.mv (.tmp 0), none, (some 8), [0]⟩,
  ⟨.mv (.tmp 1), none, (some 9), [1]⟩,
  ⟨.mv (.tmp 2), none, (some 10), [2]⟩,
  ⟨.nilchk (.tmp 6), none, (some 11), [6]⟩,
  ⟨.faddr 1 (.tmp 11), none, (some 12), [11]⟩,
  ⟨.store 1 (.tmp 12) (.lit (.int .u8 8)), none, none, [12]⟩,
  ⟨.nilchk (.tmp 7), none, (some 13), [7]⟩,
  ⟨.faddr 4 (.tmp 13), none, (some 14), [13]⟩,
  ⟨.store 1 (.tmp 14) (.tmp 9), none, none, [14, 9]⟩,
  ⟨.nilchk (.tmp 8), none, (some 15), [8]⟩,
  ⟨.faddr 8 (.tmp 15), none, (some 16), [15]⟩,
  ⟨.store 1 (.tmp 16) (.tmp 10), none, none, [16, 10]⟩]
def m33 : MFunc := ⟨17, [],
  (.region m33r0 [])⟩
def h33 : List RH := [⟨[], 0, false, []⟩]
theorem m33_ok : cmpFn Try.prog 33 h33 = some m33 := by kernel_rfl

/- dialtone/dialtoneref33.ValidEvent -/
def m34r0 : List MOper := [⟨.box 5 (.tmp 0), none, (some 1), [0]⟩,
  ⟨.mv (.lit (.bool false)), none, (some 2), []⟩]
def m34r1 : List MOper := [⟨.faddr 0 (.tmp 1), none, (some 3), [1]⟩,
  ⟨.load none (.tmp 3), none, (some 4), [3]⟩,
  ⟨.bin .lss .other (.tmp 4) (.lit (.int .u8 1)), none, (some 5), [4]⟩,
  ⟨.mv (.tmp 5), none, (some 6), [5]⟩,
  ⟨.faddr 0 (.tmp 1), (some (6, false)), (some 7), [1]⟩,
  ⟨.load none (.tmp 7), (some (6, false)), (some 8), [7]⟩,
  ⟨.bin .gtr .other (.tmp 8) (.lit (.int .u8 17)), (some (6, false)), (some 9), [8]⟩,
  ⟨.pick (.tmp 6) (.lit (.bool true)) (.tmp 9), none, (some 10), [6, 9]⟩,
  ⟨.mv (.tmp 10), none, (some 11), [10]⟩,
  ⟨.faddr 1 (.tmp 1), (some (11, false)), (some 12), [1]⟩,
  ⟨.load none (.tmp 12), (some (11, false)), (some 13), [12]⟩,
  ⟨.bin .eql .other (.tmp 13) (.lit (.str [])), (some (11, false)), (some 14), [13]⟩,
  ⟨.pick (.tmp 11) (.lit (.bool true)) (.tmp 14), none, (some 15), [11, 14]⟩,
  ⟨.mv (.tmp 15), none, (some 16), [15]⟩,
  ⟨.faddr 2 (.tmp 1), (some (16, false)), (some 17), [1]⟩,
  ⟨.load none (.tmp 17), (some (16, false)), (some 18), [17]⟩,
  ⟨.bin .lss .other (.tmp 18) (.lit (.int .i64 0)), (some (16, false)), (some 19), [18]⟩,
  ⟨.pick (.tmp 16) (.lit (.bool true)) (.tmp 19), none, (some 20), [16, 19]⟩,
  ⟨.mv (.tmp 20), none, (some 21), [20]⟩,
  ⟨.faddr 2 (.tmp 1), (some (21, false)), (some 22), [1]⟩,
  ⟨.load none (.tmp 22), (some (21, false)), (some 23), [22]⟩,
  ⟨.bin .gtr .other (.tmp 23) (.lit (.int .i64 1)), (some (21, false)), (some 24), [23]⟩,
  ⟨.pick (.tmp 21) (.lit (.bool true)) (.tmp 24), none, (some 25), [21, 24]⟩,
  ⟨.mv (.tmp 25), none, (some 26), [25]⟩,
  ⟨.faddr 4 (.tmp 1), (some (26, false)), (some 27), [1]⟩,
  ⟨.load none (.tmp 27), (some (26, false)), (some 28), [27]⟩,
  ⟨.bin .lss .other (.tmp 28) (.lit (.int .i64 0)), (some (26, false)), (some 29), [28]⟩,
  ⟨.pick (.tmp 26) (.lit (.bool true)) (.tmp 29), none, (some 30), [26, 29]⟩,
  ⟨.mv (.tmp 30), none, (some 31), [30]⟩,
  ⟨.faddr 4 (.tmp 1), (some (31, false)), (some 32), [1]⟩,
  ⟨.load none (.tmp 32), (some (31, false)), (some 33), [32]⟩,
  ⟨.bin .gtr .other (.tmp 33) (.lit (.int .i64 1099511627776)), (some (31, false)), (some 34), [33]⟩,
  ⟨.pick (.tmp 31) (.lit (.bool true)) (.tmp 34), none, (some 35), [31, 34]⟩]
def m34r2 : List MOper := [⟨.mv (.lit (.bool false)), none, (some 2), []⟩]
def m34r3 : List MOper := [⟨.faddr 0 (.tmp 1), none, (some 36), [1]⟩,
  ⟨.load none (.tmp 36), none, (some 37), [36]⟩,
  ⟨.bin .eql .other (.tmp 37) (.lit (.int .u8 4)), none, (some 38), [37]⟩]
def m34r4 : List MOper := [⟨.faddr 3 (.tmp 1), none, (some 39), [1]⟩,
  ⟨.load none (.tmp 39), none, (some 40), [39]⟩,
  ⟨.bin .geq .other (.tmp 40) (.lit (.int .i64 300)), none, (some 41), [40]⟩,
  ⟨.mv (.tmp 41), none, (some 42), [41]⟩,
  ⟨.faddr 3 (.tmp 1), (some (42, true)), (some 43), [1]⟩,
  ⟨.load none (.tmp 43), (some (42, true)), (some 44), [43]⟩,
  ⟨.bin .leq .other (.tmp 44) (.lit (.int .i64 699)), (some (42, true)), (some 45), [44]⟩,
  ⟨.pick (.tmp 42) (.tmp 45) (.lit (.bool false)), none, (some 46), [42, 45]⟩,
  ⟨.mv (.tmp 46), none, (some 2), [46]⟩]
def m34r5 : List MOper := [⟨.faddr 3 (.tmp 1), none, (some 47), [1]⟩,
  ⟨.load none (.tmp 47), none, (some 48), [47]⟩,
  ⟨.bin .eql .other (.tmp 48) (.lit (.int .i64 0)), none, (some 49), [48]⟩,
  ⟨.mv (.tmp 49), none, (some 2), [49]⟩]
def m34 : MFunc := ⟨50, [.tmp 2],
  (.seq (.region m34r0 [1])
  (.seq (.seq (.region m34r1 [1, 35])
  (.cond (.tmp 35)
  (.seq (.region m34r2 [2])
  .ret)
  .skip))
  (.seq (.seq (.region m34r3 [1, 38])
  (.cond (.tmp 38)
  (.seq (.region m34r4 [2])
  .ret)
  .skip))
  (.seq (.region m34r5 [2])
  .ret))))⟩
def h34 : List RH := [⟨[1], 0, false, []⟩, ⟨[1, 35], 0, false, []⟩, ⟨[2], 0, false, []⟩, ⟨[1, 38], 0, false, []⟩, ⟨[2], 0, false, []⟩, ⟨[2], 0, false, []⟩]
theorem m34_ok : cmpFn Try.prog 34 h34 = some m34 := by kernel_rfl

/- dialtone/dialtoneref33.change -/
def m35r0 : List MOper := [⟨.box 10 (.tmp 0), none, (some 2), [0]⟩,
  ⟨.box 5 (.tmp 1), none, (some 3), [1]⟩,
  ⟨.zbox [(.str []), (.int .u8 0), (.bool false), (.bool false), (.int .i64 0), (.int .i64 0), (.int .i64 0), (.int .i64 0), (.int .i64 0), (.int .i64 0)], none, (some 4), []⟩,
  ⟨.mv (.lit (.bool false)), none, (some 5), []⟩]
def m35r1 : List MOper := [⟨.load (some 10) (.tmp 2), none, (some 7), [2]⟩,
  ⟨.zbox [(.str []), (.int .u8 0), (.bool false), (.bool false), (.int .i64 0), (.int .i64 0), (.int .i64 0), (.int .i64 0), (.int .i64 0), (.int .i64 0)], none, (some 6), []⟩,
  ⟨.store 10 (.tmp 6) (.tmp 7), none, none, [6, 7]⟩]
def m35r2 : List MOper := [⟨.faddr 0 (.tmp 3), none, (some 8), [3]⟩,
  ⟨.load none (.tmp 8), none, (some 9), [8]⟩]
def m35r3 : List MOper := [⟨.bin .eql .other (.tmp 9) (.lit (.int .u8 2)), none, (some 11), [9]⟩,
  ⟨.mv (.tmp 11), none, (some 10), [11]⟩]
def m35r4 : List MOper := [⟨.faddr 1 (.tmp 2), none, (some 12), [2]⟩,
  ⟨.store 1 (.tmp 12) (.lit (.int .u8 2)), none, none, [12]⟩]
def m35r5 : List MOper := [⟨.load (some 10) (.tmp 2), none, (some 13), [2]⟩,
  ⟨.faddr 1 (.tmp 6), none, (some 14), [6]⟩,
  ⟨.load none (.tmp 14), none, (some 15), [14]⟩,
  ⟨.bin .eql .other (.tmp 15) (.lit (.int .u8 1)), none, (some 16), [15]⟩,
  ⟨.mv (.tmp 16), none, (some 17), [16]⟩,
  ⟨.faddr 1 (.tmp 6), (some (17, false)), (some 18), [6]⟩,
  ⟨.load none (.tmp 18), (some (17, false)), (some 19), [18]⟩,
  ⟨.bin .eql .other (.tmp 19) (.lit (.int .u8 2)), (some (17, false)), (some 20), [19]⟩,
  ⟨.pick (.tmp 17) (.lit (.bool true)) (.tmp 20), none, (some 21), [17, 20]⟩,
  ⟨.store 10 (.tmp 4) (.tmp 13), none, none, [4, 13]⟩]
def m35r6 : List MOper := [⟨.mv (.tmp 21), none, (some 5), [21]⟩]
def m35r7 : List MOper := [⟨.bin .eql .other (.tmp 9) (.lit (.int .u8 12)), none, (some 23), [9]⟩,
  ⟨.mv (.tmp 23), none, (some 22), [23]⟩]
def m35r8 : List MOper := [⟨.faddr 1 (.tmp 2), none, (some 24), [2]⟩,
  ⟨.store 1 (.tmp 24) (.lit (.int .u8 6)), none, none, [24]⟩]
def m35r9 : List MOper := [⟨.load (some 10) (.tmp 2), none, (some 25), [2]⟩,
  ⟨.faddr 1 (.tmp 6), none, (some 26), [6]⟩,
  ⟨.load none (.tmp 26), none, (some 27), [26]⟩,
  ⟨.bin .eql .other (.tmp 27) (.lit (.int .u8 1)), none, (some 28), [27]⟩]
def m35r10 : List MOper := [⟨.store 10 (.tmp 4) (.tmp 25), none, none, [4, 25]⟩,
  ⟨.mv (.tmp 28), none, (some 5), [28]⟩]
def m35r11 : List MOper := [⟨.load none (.tmp 26), none, (some 27), [26]⟩]
def m35r12 : List MOper := [⟨.load none (.tmp 26), none, (some 27), [26]⟩]
def m35r13 : List MOper := [⟨.bin .eql .other (.tmp 9) (.lit (.int .u8 3)), none, (some 30), [9]⟩,
  ⟨.mv (.tmp 30), none, (some 29), [30]⟩]
def m35r14 : List MOper := [⟨.load (some 10) (.tmp 2), none, (some 31), [2]⟩,
  ⟨.faddr 4 (.tmp 3), none, (some 32), [3]⟩,
  ⟨.load none (.tmp 32), none, (some 33), [32]⟩,
  ⟨.load (some 10) (.tmp 2), none, (some 35), [2]⟩]
def m35r15 : List MOper := [⟨.call 48 [(.tmp 31), (.lit (.int .u8 3)), (.tmp 33)], none, (some 34), [31, 33]⟩,
  ⟨.call 28 [(.tmp 35)], none, (some 36), [35]⟩,
  ⟨.store 10 (.tmp 4) (.tmp 34), none, none, [4, 34]⟩,
  ⟨.mv (.tmp 36), none, (some 5), [36]⟩]
def m35r16 : List MOper := [⟨.load (some 10) (.tmp 2), none, (some 35), [2]⟩]
def m35r17 : List MOper := [⟨.load (some 10) (.tmp 2), none, (some 35), [2]⟩]
def m35r18 : List MOper := [⟨.bin .eql .other (.tmp 9) (.lit (.int .u8 15)), none, (some 38), [9]⟩,
  ⟨.mv (.tmp 38), none, (some 37), [38]⟩]
def m35r19 : List MOper := [⟨.load (some 10) (.tmp 2), none, (some 39), [2]⟩,
  ⟨.faddr 4 (.tmp 3), none, (some 40), [3]⟩,
  ⟨.load none (.tmp 40), none, (some 41), [40]⟩,
  ⟨.load (some 10) (.tmp 2), none, (some 43), [2]⟩]
def m35r20 : List MOper := [⟨.call 48 [(.tmp 39), (.lit (.int .u8 7)), (.tmp 41)], none, (some 42), [39, 41]⟩,
  ⟨.call 28 [(.tmp 43)], none, (some 44), [43]⟩,
  ⟨.store 10 (.tmp 4) (.tmp 42), none, none, [4, 42]⟩,
  ⟨.mv (.tmp 44), none, (some 5), [44]⟩]
def m35r21 : List MOper := [⟨.load (some 10) (.tmp 2), none, (some 43), [2]⟩]
def m35r22 : List MOper := [⟨.load (some 10) (.tmp 2), none, (some 43), [2]⟩]
def m35r23 : List MOper := [⟨.bin .eql .other (.tmp 9) (.lit (.int .u8 4)), none, (some 46), [9]⟩,
  ⟨.mv (.tmp 46), none, (some 45), [46]⟩]
def m35r24 : List MOper := [⟨.load (some 10) (.tmp 2), none, (some 47), [2]⟩,
  ⟨.faddr 3 (.tmp 3), none, (some 48), [3]⟩,
  ⟨.load none (.tmp 48), none, (some 49), [48]⟩,
  ⟨.faddr 4 (.tmp 3), none, (some 50), [3]⟩,
  ⟨.load none (.tmp 50), none, (some 51), [50]⟩,
  ⟨.load (some 10) (.tmp 2), none, (some 53), [2]⟩]
def m35r25 : List MOper := [⟨.call 49 [(.tmp 47), (.tmp 49), (.tmp 51)], none, (some 52), [47, 49, 51]⟩,
  ⟨.call 28 [(.tmp 53)], none, (some 54), [53]⟩,
  ⟨.store 10 (.tmp 4) (.tmp 52), none, none, [4, 52]⟩,
  ⟨.mv (.tmp 54), none, (some 5), [54]⟩]
def m35r26 : List MOper := [⟨.load (some 10) (.tmp 2), none, (some 53), [2]⟩]
def m35r27 : List MOper := [⟨.load (some 10) (.tmp 2), none, (some 53), [2]⟩]
def m35r28 : List MOper := [⟨.bin .eql .other (.tmp 9) (.lit (.int .u8 5)), none, (some 56), [9]⟩,
  ⟨.mv (.tmp 56), none, (some 55), [56]⟩]
def m35r29 : List MOper := [⟨.load (some 10) (.tmp 2), none, (some 57), [2]⟩,
  ⟨.faddr 4 (.tmp 3), none, (some 58), [3]⟩,
  ⟨.load none (.tmp 58), none, (some 59), [58]⟩,
  ⟨.load (some 10) (.tmp 2), none, (some 61), [2]⟩]
def m35r30 : List MOper := [⟨.call 49 [(.tmp 57), (.lit (.int .i64 487)), (.tmp 59)], none, (some 60), [57, 59]⟩,
  ⟨.call 28 [(.tmp 61)], none, (some 62), [61]⟩,
  ⟨.store 10 (.tmp 4) (.tmp 60), none, none, [4, 60]⟩,
  ⟨.mv (.tmp 62), none, (some 5), [62]⟩]
def m35r31 : List MOper := [⟨.load (some 10) (.tmp 2), none, (some 61), [2]⟩]
def m35r32 : List MOper := [⟨.load (some 10) (.tmp 2), none, (some 61), [2]⟩]
def m35r33 : List MOper := [⟨.bin .eql .other (.tmp 9) (.lit (.int .u8 6)), none, (some 64), [9]⟩,
  ⟨.mv (.tmp 64), none, (some 63), [64]⟩]
def m35r34 : List MOper := [⟨.faddr 2 (.tmp 3), none, (some 65), [3]⟩,
  ⟨.load none (.tmp 65), none, (some 66), [65]⟩,
  ⟨.faddr 2 (.tmp 2), none, (some 67), [2]⟩,
  ⟨.aaddr 2 1 (.tmp 67) (.tmp 66), none, (some 68), [67, 66]⟩,
  ⟨.store 1 (.tmp 68) (.lit (.bool true)), none, none, [68]⟩]
def m35r35 : List MOper := [⟨.load (some 10) (.tmp 2), none, (some 69), [2]⟩,
  ⟨.faddr 1 (.tmp 6), none, (some 70), [6]⟩,
  ⟨.load none (.tmp 70), none, (some 71), [70]⟩,
  ⟨.bin .eql .other (.tmp 71) (.lit (.int .u8 3)), none, (some 72), [71]⟩,
  ⟨.mv (.tmp 72), none, (some 73), [72]⟩,
  ⟨.faddr 2 (.tmp 3), (some (73, true)), (some 74), [3]⟩,
  ⟨.load none (.tmp 74), (some (73, true)), (some 75), [74]⟩,
  ⟨.faddr 2 (.tmp 6), (some (73, true)), (some 76), [6]⟩,
  ⟨.aaddr 2 1 (.tmp 76) (.tmp 75), (some (73, true)), (some 77), [76, 75]⟩,
  ⟨.load none (.tmp 77), (some (73, true)), (some 78), [77]⟩,
  ⟨.un .not (.tmp 78), (some (73, true)), (some 79), [78]⟩,
  ⟨.pick (.tmp 73) (.tmp 79) (.lit (.bool false)), none, (some 80), [73, 79]⟩,
  ⟨.store 10 (.tmp 4) (.tmp 69), none, none, [4, 69]⟩]
def m35r36 : List MOper := [⟨.mv (.tmp 80), none, (some 5), [80]⟩]
def m35r37 : List MOper := [⟨.bin .eql .other (.tmp 9) (.lit (.int .u8 7)), none, (some 82), [9]⟩,
  ⟨.mv (.tmp 82), none, (some 81), [82]⟩]
def m35r38 : List MOper := [⟨.faddr 2 (.tmp 3), none, (some 83), [3]⟩,
  ⟨.load none (.tmp 83), none, (some 84), [83]⟩,
  ⟨.faddr 2 (.tmp 2), none, (some 85), [2]⟩,
  ⟨.aaddr 2 1 (.tmp 85) (.tmp 84), none, (some 86), [85, 84]⟩,
  ⟨.store 1 (.tmp 86) (.lit (.bool false)), none, none, [86]⟩]
def m35r39 : List MOper := [⟨.load (some 10) (.tmp 2), none, (some 87), [2]⟩,
  ⟨.faddr 1 (.tmp 6), none, (some 88), [6]⟩,
  ⟨.load none (.tmp 88), none, (some 89), [88]⟩,
  ⟨.bin .eql .other (.tmp 89) (.lit (.int .u8 3)), none, (some 90), [89]⟩,
  ⟨.mv (.tmp 90), none, (some 91), [90]⟩,
  ⟨.faddr 2 (.tmp 3), (some (91, true)), (some 92), [3]⟩,
  ⟨.load none (.tmp 92), (some (91, true)), (some 93), [92]⟩,
  ⟨.faddr 2 (.tmp 6), (some (91, true)), (some 94), [6]⟩,
  ⟨.aaddr 2 1 (.tmp 94) (.tmp 93), (some (91, true)), (some 95), [94, 93]⟩,
  ⟨.load none (.tmp 95), (some (91, true)), (some 96), [95]⟩,
  ⟨.pick (.tmp 91) (.tmp 96) (.lit (.bool false)), none, (some 97), [91, 96]⟩,
  ⟨.store 10 (.tmp 4) (.tmp 87), none, none, [4, 87]⟩]
def m35r40 : List MOper := [⟨.mv (.tmp 97), none, (some 5), [97]⟩]
def m35r41 : List MOper := [⟨.bin .eql .other (.tmp 9) (.lit (.int .u8 9)), none, (some 99), [9]⟩,
  ⟨.mv (.tmp 99), none, (some 98), [99]⟩]
def m35r42 : List MOper := [⟨.faddr 1 (.tmp 2), none, (some 100), [2]⟩,
  ⟨.store 1 (.tmp 100) (.lit (.int .u8 4)), none, none, [100]⟩]
def m35r43 : List MOper := [⟨.load (some 10) (.tmp 2), none, (some 101), [2]⟩,
  ⟨.faddr 1 (.tmp 6), none, (some 102), [6]⟩,
  ⟨.load none (.tmp 102), none, (some 103), [102]⟩,
  ⟨.bin .eql .other (.tmp 103) (.lit (.int .u8 3)), none, (some 104), [103]⟩]
def m35r44 : List MOper := [⟨.store 10 (.tmp 4) (.tmp 101), none, none, [4, 101]⟩,
  ⟨.mv (.tmp 104), none, (some 5), [104]⟩]
def m35r45 : List MOper := [⟨.load none (.tmp 102), none, (some 103), [102]⟩]
def m35r46 : List MOper := [⟨.load none (.tmp 102), none, (some 103), [102]⟩]
def m35r47 : List MOper := [⟨.bin .eql .other (.tmp 9) (.lit (.int .u8 10)), none, (some 106), [9]⟩,
  ⟨.mv (.tmp 106), none, (some 105), [106]⟩]
def m35r48 : List MOper := [⟨.faddr 9 (.tmp 2), none, (some 107), [2]⟩,
  ⟨.load none (.tmp 107), none, (some 108), [107]⟩,
  ⟨.bin .add .other (.tmp 108) (.lit (.int .i64 1)), none, (some 109), [108]⟩,
  ⟨.build [(.bool false), (.bool false)] [], none, (some 110), []⟩,
  ⟨.faddr 1 (.tmp 2), none, (some 111), [2]⟩,
  ⟨.store 1 (.tmp 111) (.lit (.int .u8 3)), none, none, [111]⟩,
  ⟨.faddr 9 (.tmp 2), none, (some 112), [2]⟩,
  ⟨.store 1 (.tmp 112) (.tmp 109), none, none, [112, 109]⟩,
  ⟨.faddr 2 (.tmp 2), none, (some 113), [2]⟩,
  ⟨.store 2 (.tmp 113) (.tmp 110), none, none, [113, 110]⟩]
def m35r49 : List MOper := [⟨.load (some 10) (.tmp 2), none, (some 114), [2]⟩,
  ⟨.faddr 1 (.tmp 6), none, (some 115), [6]⟩,
  ⟨.load none (.tmp 115), none, (some 116), [115]⟩,
  ⟨.bin .eql .other (.tmp 116) (.lit (.int .u8 4)), none, (some 117), [116]⟩,
  ⟨.mv (.tmp 117), none, (some 118), [117]⟩,
  ⟨.faddr 9 (.tmp 6), (some (118, true)), (some 119), [6]⟩,
  ⟨.load none (.tmp 119), (some (118, true)), (some 120), [119]⟩,
  ⟨.bin .lss .other (.tmp 120) (.lit (.int .i64 2147483647)), (some (118, true)), (some 121), [120]⟩,
  ⟨.pick (.tmp 118) (.tmp 121) (.lit (.bool false)), none, (some 122), [118, 121]⟩,
  ⟨.store 10 (.tmp 4) (.tmp 114), none, none, [4, 114]⟩]
def m35r50 : List MOper := [⟨.mv (.tmp 122), none, (some 5), [122]⟩]
def m35r51 : List MOper := [⟨.bin .eql .other (.tmp 9) (.lit (.int .u8 11)), none, (some 124), [9]⟩,
  ⟨.mv (.tmp 124), none, (some 123), [124]⟩]
def m35r52 : List MOper := [⟨.faddr 1 (.tmp 2), none, (some 125), [2]⟩,
  ⟨.store 1 (.tmp 125) (.lit (.int .u8 3)), none, none, [125]⟩]
def m35r53 : List MOper := [⟨.load (some 10) (.tmp 2), none, (some 126), [2]⟩,
  ⟨.faddr 1 (.tmp 6), none, (some 127), [6]⟩,
  ⟨.load none (.tmp 127), none, (some 128), [127]⟩,
  ⟨.bin .eql .other (.tmp 128) (.lit (.int .u8 4)), none, (some 129), [128]⟩]
def m35r54 : List MOper := [⟨.store 10 (.tmp 4) (.tmp 126), none, none, [4, 126]⟩,
  ⟨.mv (.tmp 129), none, (some 5), [129]⟩]
def m35r55 : List MOper := [⟨.load none (.tmp 127), none, (some 128), [127]⟩]
def m35r56 : List MOper := [⟨.load none (.tmp 127), none, (some 128), [127]⟩]
def m35r57 : List MOper := [⟨.bin .eql .other (.tmp 9) (.lit (.int .u8 13)), none, (some 131), [9]⟩,
  ⟨.mv (.tmp 131), none, (some 130), [131]⟩]
def m35r58 : List MOper := [⟨.build [(.bool false), (.bool false)] [], none, (some 132), []⟩,
  ⟨.faddr 1 (.tmp 2), none, (some 133), [2]⟩,
  ⟨.store 1 (.tmp 133) (.lit (.int .u8 5)), none, none, [133]⟩,
  ⟨.faddr 2 (.tmp 2), none, (some 134), [2]⟩,
  ⟨.store 2 (.tmp 134) (.tmp 132), none, none, [134, 132]⟩]
def m35r59 : List MOper := [⟨.load (some 10) (.tmp 2), none, (some 135), [2]⟩,
  ⟨.faddr 1 (.tmp 6), none, (some 136), [6]⟩,
  ⟨.load none (.tmp 136), none, (some 137), [136]⟩,
  ⟨.bin .eql .other (.tmp 137) (.lit (.int .u8 3)), none, (some 138), [137]⟩]
def m35r60 : List MOper := [⟨.store 10 (.tmp 4) (.tmp 135), none, none, [4, 135]⟩,
  ⟨.mv (.tmp 138), none, (some 5), [138]⟩]
def m35r61 : List MOper := [⟨.load none (.tmp 136), none, (some 137), [136]⟩]
def m35r62 : List MOper := [⟨.load none (.tmp 136), none, (some 137), [136]⟩]
def m35r63 : List MOper := [⟨.bin .eql .other (.tmp 9) (.lit (.int .u8 14)), none, (some 140), [9]⟩,
  ⟨.mv (.tmp 140), none, (some 139), [140]⟩]
def m35r64 : List MOper := [⟨.faddr 9 (.tmp 2), none, (some 141), [2]⟩,
  ⟨.load none (.tmp 141), none, (some 142), [141]⟩,
  ⟨.bin .add .other (.tmp 142) (.lit (.int .i64 1)), none, (some 143), [142]⟩,
  ⟨.faddr 1 (.tmp 2), none, (some 144), [2]⟩,
  ⟨.store 1 (.tmp 144) (.lit (.int .u8 3)), none, none, [144]⟩,
  ⟨.faddr 9 (.tmp 2), none, (some 145), [2]⟩,
  ⟨.store 1 (.tmp 145) (.tmp 143), none, none, [145, 143]⟩]
def m35r65 : List MOper := [⟨.load (some 10) (.tmp 2), none, (some 146), [2]⟩,
  ⟨.faddr 1 (.tmp 6), none, (some 147), [6]⟩,
  ⟨.load none (.tmp 147), none, (some 148), [147]⟩,
  ⟨.bin .eql .other (.tmp 148) (.lit (.int .u8 5)), none, (some 149), [148]⟩,
  ⟨.mv (.tmp 149), none, (some 150), [149]⟩,
  ⟨.faddr 9 (.tmp 6), (some (150, true)), (some 151), [6]⟩,
  ⟨.load none (.tmp 151), (some (150, true)), (some 152), [151]⟩,
  ⟨.bin .lss .other (.tmp 152) (.lit (.int .i64 2147483647)), (some (150, true)), (some 153), [152]⟩,
  ⟨.pick (.tmp 150) (.tmp 153) (.lit (.bool false)), none, (some 154), [150, 153]⟩,
  ⟨.store 10 (.tmp 4) (.tmp 146), none, none, [4, 146]⟩]
def m35r66 : List MOper := [⟨.mv (.tmp 154), none, (some 5), [154]⟩]
def m35r67 : List MOper := [⟨.bin .eql .other (.tmp 9) (.lit (.int .u8 8)), none, (some 156), [9]⟩,
  ⟨.mv (.tmp 156), none, (some 155), [156]⟩]
def m35r68 : List MOper := [⟨.load (some 10) (.tmp 2), none, (some 157), [2]⟩,
  ⟨.faddr 4 (.tmp 3), none, (some 158), [3]⟩,
  ⟨.load none (.tmp 158), none, (some 159), [158]⟩,
  ⟨.call 49 [(.tmp 157), (.lit (.int .i64 0)), (.tmp 159)], none, (some 160), [157, 159]⟩,
  ⟨.load (some 10) (.tmp 2), none, (some 161), [2]⟩,
  ⟨.call 29 [(.tmp 161)], none, (some 162), [161]⟩,
  ⟨.mv (.tmp 162), none, (some 163), [162]⟩,
  ⟨.load (some 10) (.tmp 2), (some (163, true)), (some 164), [2]⟩,
  ⟨.call 28 [(.tmp 164)], (some (163, true)), (some 165), [164]⟩,
  ⟨.un .not (.tmp 165), (some (163, true)), (some 166), [165]⟩,
  ⟨.pick (.tmp 163) (.tmp 166) (.lit (.bool false)), none, (some 167), [163, 166]⟩]
def m35r69 : List MOper := [⟨.store 10 (.tmp 4) (.tmp 160), none, none, [4, 160]⟩,
  ⟨.mv (.tmp 167), none, (some 5), [167]⟩]
def m35r70 : List MOper := [⟨.bin .eql .other (.tmp 9) (.lit (.int .u8 16)), none, (some 169), [9]⟩,
  ⟨.mv (.tmp 169), none, (some 168), [169]⟩]
def m35r71 : List MOper := [⟨.load (some 10) (.tmp 2), none, (some 170), [2]⟩,
  ⟨.faddr 4 (.tmp 3), none, (some 171), [3]⟩,
  ⟨.load none (.tmp 171), none, (some 172), [171]⟩,
  ⟨.load (some 10) (.tmp 2), none, (some 174), [2]⟩]
def m35r72 : List MOper := [⟨.call 49 [(.tmp 170), (.lit (.int .i64 408)), (.tmp 172)], none, (some 173), [170, 172]⟩,
  ⟨.call 29 [(.tmp 174)], none, (some 175), [174]⟩,
  ⟨.store 10 (.tmp 4) (.tmp 173), none, none, [4, 173]⟩,
  ⟨.mv (.tmp 175), none, (some 5), [175]⟩]
def m35r73 : List MOper := [⟨.load (some 10) (.tmp 2), none, (some 174), [2]⟩]
def m35r74 : List MOper := [⟨.load (some 10) (.tmp 2), none, (some 174), [2]⟩]
def m35r75 : List MOper := [⟨.bin .eql .other (.tmp 9) (.lit (.int .u8 17)), none, (some 177), [9]⟩,
  ⟨.mv (.tmp 177), none, (some 176), [177]⟩]
def m35r76 : List MOper := [⟨.load (some 10) (.tmp 2), none, (some 178), [2]⟩,
  ⟨.faddr 4 (.tmp 3), none, (some 179), [3]⟩,
  ⟨.load none (.tmp 179), none, (some 180), [179]⟩,
  ⟨.load (some 10) (.tmp 2), none, (some 182), [2]⟩]
def m35r77 : List MOper := [⟨.call 49 [(.tmp 178), (.lit (.int .i64 500)), (.tmp 180)], none, (some 181), [178, 180]⟩,
  ⟨.call 29 [(.tmp 182)], none, (some 183), [182]⟩,
  ⟨.store 10 (.tmp 4) (.tmp 181), none, none, [4, 181]⟩,
  ⟨.mv (.tmp 183), none, (some 5), [183]⟩]
def m35r78 : List MOper := [⟨.load (some 10) (.tmp 2), none, (some 182), [2]⟩]
def m35r79 : List MOper := [⟨.load (some 10) (.tmp 2), none, (some 182), [2]⟩]
def m35r80 : List MOper := [⟨.load (some 10) (.tmp 2), none, (some 184), [2]⟩,
  ⟨.store 10 (.tmp 4) (.tmp 184), none, none, [4, 184]⟩,
  ⟨.mv (.lit (.bool false)), none, (some 5), []⟩]
def m35 : MFunc := ⟨185, [.cell 4 (some 10), .tmp 5],
  (.seq (.region m35r0 [2, 3, 4])
  (.seq (.region m35r1 [2, 3, 4, 6])
  (.seq (.seq (.region m35r2 [2, 3, 4, 6, 9])
  (.block 0 (.seq (.region m35r3 [2, 3, 4, 6, 9, 10])
  (.cond (.tmp 10)
  (.seq (.region m35r4 [2, 4, 6])
  (.seq (.dregion m35r5 m35r6 [] [4, 5])
  .ret))
  (.seq (.region m35r7 [2, 3, 4, 6, 9, 22])
  (.cond (.tmp 22)
  (.seq (.region m35r8 [2, 4, 6])
  (.seq (.dregion m35r9 m35r10 [m35r11, m35r12, []] [4, 5])
  .ret))
  (.seq (.region m35r13 [2, 3, 4, 6, 9, 29])
  (.cond (.tmp 29)
  (.seq (.dregion m35r14 m35r15 [m35r16, m35r17, [], [], []] [4, 5])
  .ret)
  (.seq (.region m35r18 [2, 3, 4, 6, 9, 37])
  (.cond (.tmp 37)
  (.seq (.dregion m35r19 m35r20 [m35r21, m35r22, [], [], []] [4, 5])
  .ret)
  (.seq (.region m35r23 [2, 3, 4, 6, 9, 45])
  (.cond (.tmp 45)
  (.seq (.dregion m35r24 m35r25 [m35r26, m35r27, [], [], []] [4, 5])
  .ret)
  (.seq (.region m35r28 [2, 3, 4, 6, 9, 55])
  (.cond (.tmp 55)
  (.seq (.dregion m35r29 m35r30 [m35r31, m35r32, [], [], []] [4, 5])
  .ret)
  (.seq (.region m35r33 [2, 3, 4, 6, 9, 63])
  (.cond (.tmp 63)
  (.seq (.region m35r34 [2, 3, 4, 6])
  (.seq (.dregion m35r35 m35r36 [] [4, 5])
  .ret))
  (.seq (.region m35r37 [2, 3, 4, 6, 9, 81])
  (.cond (.tmp 81)
  (.seq (.region m35r38 [2, 3, 4, 6])
  (.seq (.dregion m35r39 m35r40 [] [4, 5])
  .ret))
  (.seq (.region m35r41 [2, 3, 4, 6, 9, 98])
  (.cond (.tmp 98)
  (.seq (.region m35r42 [2, 4, 6])
  (.seq (.dregion m35r43 m35r44 [m35r45, m35r46, []] [4, 5])
  .ret))
  (.seq (.region m35r47 [2, 3, 4, 6, 9, 105])
  (.cond (.tmp 105)
  (.seq (.region m35r48 [2, 4, 6])
  (.seq (.dregion m35r49 m35r50 [] [4, 5])
  .ret))
  (.seq (.region m35r51 [2, 3, 4, 6, 9, 123])
  (.cond (.tmp 123)
  (.seq (.region m35r52 [2, 4, 6])
  (.seq (.dregion m35r53 m35r54 [m35r55, m35r56, []] [4, 5])
  .ret))
  (.seq (.region m35r57 [2, 3, 4, 6, 9, 130])
  (.cond (.tmp 130)
  (.seq (.region m35r58 [2, 4, 6])
  (.seq (.dregion m35r59 m35r60 [m35r61, m35r62, []] [4, 5])
  .ret))
  (.seq (.region m35r63 [2, 3, 4, 6, 9, 139])
  (.cond (.tmp 139)
  (.seq (.region m35r64 [2, 4, 6])
  (.seq (.dregion m35r65 m35r66 [] [4, 5])
  .ret))
  (.seq (.region m35r67 [2, 3, 4, 9, 155])
  (.cond (.tmp 155)
  (.seq (.dregion m35r68 m35r69 [] [4, 5])
  .ret)
  (.seq (.region m35r70 [2, 3, 4, 9, 168])
  (.cond (.tmp 168)
  (.seq (.dregion m35r71 m35r72 [m35r73, m35r74, [], [], []] [4, 5])
  .ret)
  (.seq (.region m35r75 [2, 3, 4, 176])
  (.cond (.tmp 176)
  (.seq (.dregion m35r76 m35r77 [m35r78, m35r79, [], [], []] [4, 5])
  .ret)
  .skip))))))))))))))))))))))))))))))))))
  (.seq (.region m35r80 [4, 5])
  .ret))))⟩
def h35 : List RH := [⟨[2, 3, 4], 0, false, []⟩, ⟨[2, 3, 4, 6], 0, false, []⟩, ⟨[2, 3, 4, 6, 9], 0, false, []⟩, ⟨[2, 3, 4, 6, 9, 10], 0, false, []⟩, ⟨[2, 4, 6], 0, false, []⟩, ⟨[4, 5], 10, false, []⟩, ⟨[2, 3, 4, 6, 9, 22], 0, false, []⟩, ⟨[2, 4, 6], 0, false, []⟩, ⟨[4, 5], 4, false, []⟩, ⟨[2, 3, 4, 6, 9, 29], 0, false, []⟩, ⟨[4, 5], 4, false, [0, 1, 2, 4, 3, 5, 6, 7]⟩, ⟨[2, 3, 4, 6, 9, 37], 0, false, []⟩, ⟨[4, 5], 4, false, [0, 1, 2, 4, 3, 5, 6, 7]⟩, ⟨[2, 3, 4, 6, 9, 45], 0, false, []⟩, ⟨[4, 5], 6, false, [0, 1, 2, 3, 4, 6, 5, 7, 8, 9]⟩, ⟨[2, 3, 4, 6, 9, 55], 0, false, []⟩, ⟨[4, 5], 4, false, [0, 1, 2, 4, 3, 5, 6, 7]⟩, ⟨[2, 3, 4, 6, 9, 63], 0, false, []⟩, ⟨[2, 3, 4, 6], 0, false, []⟩, ⟨[4, 5], 13, false, []⟩, ⟨[2, 3, 4, 6, 9, 81], 0, false, []⟩, ⟨[2, 3, 4, 6], 0, false, []⟩, ⟨[4, 5], 12, false, []⟩, ⟨[2, 3, 4, 6, 9, 98], 0, false, []⟩, ⟨[2, 4, 6], 0, false, []⟩, ⟨[4, 5], 4, false, []⟩, ⟨[2, 3, 4, 6, 9, 105], 0, false, []⟩, ⟨[2, 4, 6], 0, false, []⟩, ⟨[4, 5], 10, false, []⟩, ⟨[2, 3, 4, 6, 9, 123], 0, false, []⟩, ⟨[2, 4, 6], 0, false, []⟩, ⟨[4, 5], 4, false, []⟩, ⟨[2, 3, 4, 6, 9, 130], 0, false, []⟩, ⟨[2, 4, 6], 0, false, []⟩, ⟨[4, 5], 4, false, []⟩, ⟨[2, 3, 4, 6, 9, 139], 0, false, []⟩, ⟨[2, 4, 6], 0, false, []⟩, ⟨[4, 5], 10, false, []⟩, ⟨[2, 3, 4, 9, 155], 0, false, []⟩, ⟨[4, 5], 11, false, []⟩, ⟨[2, 3, 4, 9, 168], 0, false, []⟩, ⟨[4, 5], 4, false, [0, 1, 2, 4, 3, 5, 6, 7]⟩, ⟨[2, 3, 4, 176], 0, false, []⟩, ⟨[4, 5], 4, false, [0, 1, 2, 4, 3, 5, 6, 7]⟩, ⟨[4, 5], 0, false, []⟩]
theorem m35_ok : cmpFn Try.prog 35 h35 = some m35 := by kernel_rfl

/- slices.Contains[[]dialtone/api.CallState,dialtone/api.CallState] -/
def m36r0 : List MOper := [⟨.mv (.lit (.bool false)), none, (some 4), []⟩]
def m36r1 : List MOper := [⟨.mv (.tmp 0), none, (some 5), [0]⟩,
  ⟨.mv (.tmp 1), none, (some 6), [1]⟩,
  ⟨.call 50 [(.tmp 5), (.tmp 6)], none, (some 7), [5, 6]⟩,
  ⟨.bin .geq .other (.tmp 7) (.lit (.int .i64 0)), none, (some 8), [7]⟩,
  ⟨.mv (.tmp 8), none, (some 4), [8]⟩]
def m36 : MFunc := ⟨9, [.tmp 4],
  (.seq (.region m36r0 [0, 1])
  (.seq (.region m36r1 [4])
  .ret))⟩
def h36 : List RH := [⟨[0, 1], 0, false, []⟩, ⟨[4], 0, false, []⟩]
theorem m36_ok : cmpFn Try.prog 36 h36 = some m36 := by kernel_rfl

/- slices.insertionSortCmpFunc[string] -/
def m37r0 : List MOper := [⟨.mv (.tmp 1), none, (some 10), [1]⟩,
  ⟨.bin .add .other (.tmp 10) (.lit (.int .i64 1)), none, (some 11), [10]⟩,
  ⟨.mv (.tmp 11), none, (some 8), [11]⟩]
def m37r1 : List MOper := [⟨.mv (.tmp 8), none, (some 12), [8]⟩,
  ⟨.mv (.tmp 2), none, (some 13), [2]⟩,
  ⟨.bin .lss .other (.tmp 12) (.tmp 13), none, (some 14), [12, 13]⟩]
def m37r2 : List MOper := [⟨.mv (.tmp 8), none, (some 17), [8]⟩,
  ⟨.mv (.tmp 17), none, (some 9), [17]⟩]
def m37r3 : List MOper := [⟨.mv (.tmp 9), none, (some 18), [9]⟩,
  ⟨.mv (.tmp 1), none, (some 19), [1]⟩,
  ⟨.bin .gtr .other (.tmp 18) (.tmp 19), none, (some 20), [18, 19]⟩,
  ⟨.mv (.tmp 20), none, (some 21), [20]⟩,
  ⟨.mv (.tmp 3), (some (21, true)), (some 22), [3]⟩,
  ⟨.mv (.tmp 0), (some (21, true)), (some 23), [0]⟩,
  ⟨.mv (.tmp 9), (some (21, true)), (some 24), [9]⟩,
  ⟨.iaddr 1 (.tmp 23) (.tmp 24), (some (21, true)), (some 25), [23, 24]⟩,
  ⟨.load none (.tmp 25), (some (21, true)), (some 26), [25]⟩,
  ⟨.mv (.tmp 0), (some (21, true)), (some 27), [0]⟩,
  ⟨.mv (.tmp 9), (some (21, true)), (some 28), [9]⟩,
  ⟨.bin .sub .other (.tmp 28) (.lit (.int .i64 1)), (some (21, true)), (some 29), [28]⟩,
  ⟨.iaddr 1 (.tmp 27) (.tmp 29), (some (21, true)), (some 30), [27, 29]⟩,
  ⟨.load none (.tmp 30), (some (21, true)), (some 31), [30]⟩]
def m37r4 : List MOper := [⟨.callv (.tmp 22) [(.tmp 26), (.tmp 31)], (some (21, true)), (some 32), [22, 26, 31]⟩,
  ⟨.bin .lss .other (.tmp 32) (.lit (.int .i64 0)), (some (21, true)), (some 33), [32]⟩,
  ⟨.pick (.tmp 21) (.tmp 33) (.lit (.bool false)), none, (some 34), [21, 33]⟩]
def m37r5 : List MOper := [⟨.mv (.tmp 0), none, (some 37), [0]⟩,
  ⟨.mv (.tmp 9), none, (some 38), [9]⟩,
  ⟨.mv (.tmp 0), none, (some 39), [0]⟩,
  ⟨.mv (.tmp 9), none, (some 40), [9]⟩,
  ⟨.bin .sub .other (.tmp 40) (.lit (.int .i64 1)), none, (some 41), [40]⟩,
  ⟨.mv (.tmp 0), none, (some 42), [0]⟩,
  ⟨.mv (.tmp 9), none, (some 43), [9]⟩,
  ⟨.bin .sub .other (.tmp 43) (.lit (.int .i64 1)), none, (some 44), [43]⟩,
  ⟨.iaddr 1 (.tmp 42) (.tmp 44), none, (some 45), [42, 44]⟩,
  ⟨.load none (.tmp 45), none, (some 46), [45]⟩,
  ⟨.mv (.tmp 0), none, (some 47), [0]⟩,
  ⟨.mv (.tmp 9), none, (some 48), [9]⟩,
  ⟨.iaddr 1 (.tmp 47) (.tmp 48), none, (some 49), [47, 48]⟩,
  ⟨.load none (.tmp 49), none, (some 50), [49]⟩]
def m37r6 : List MOper := [⟨.iaddr 1 (.tmp 37) (.tmp 38), none, (some 51), [37, 38]⟩,
  ⟨.store 1 (.tmp 51) (.tmp 46), none, none, [51, 46]⟩,
  ⟨.iaddr 1 (.tmp 39) (.tmp 41), none, (some 52), [39, 41]⟩,
  ⟨.store 1 (.tmp 52) (.tmp 50), none, none, [52, 50]⟩]
def m37r7 : List MOper := [⟨.mv (.tmp 9), none, (some 35), [9]⟩,
  ⟨.bin .sub .other (.tmp 35) (.lit (.int .i64 1)), none, (some 36), [35]⟩,
  ⟨.mv (.tmp 36), none, (some 9), [36]⟩]
def m37l8 : MCode := (.seq (.seq (.dregion m37r3 m37r4 [] [0, 1, 2, 3, 8, 9, 34])
  (.cond (.tmp 34)
  .skip
  (.exit 2)))
  (.seq (.block 3 (.dregion m37r5 m37r6 [] [0, 1, 2, 3, 8, 9]))
  (.region m37r7 [0, 1, 2, 3, 8, 9])))
def m37r9 : List MOper := [⟨.mv (.tmp 8), none, (some 15), [8]⟩,
  ⟨.bin .add .other (.tmp 15) (.lit (.int .i64 1)), none, (some 16), [15]⟩,
  ⟨.mv (.tmp 16), none, (some 8), [16]⟩]
def m37l10 : MCode := (.seq (.seq (.region m37r1 [0, 1, 2, 3, 8, 14])
  (.cond (.tmp 14)
  .skip
  (.exit 0)))
  (.seq (.block 1 (.seq (.region m37r2 [0, 1, 2, 3, 8, 9])
  (.block 2 (.loop [0, 1, 2, 3, 8, 9] m37l8))))
  (.region m37r9 [0, 1, 2, 3, 8])))
def m37 : MFunc := ⟨53, [],
  (.seq (.region m37r0 [0, 1, 2, 3, 8])
  (.block 0 (.loop [0, 1, 2, 3, 8] m37l10)))⟩
def h37 : List RH := [⟨[0, 1, 2, 3, 8], 0, false, []⟩, ⟨[0, 1, 2, 3, 8], 0, false, []⟩, ⟨[0, 1, 2, 3, 8, 14], 0, false, []⟩, ⟨[0, 1, 2, 3, 8, 9], 0, false, []⟩, ⟨[0, 1, 2, 3, 8, 9], 0, false, []⟩, ⟨[0, 1, 2, 3, 8, 9, 34], 14, false, []⟩, ⟨[0, 1, 2, 3, 8, 9], 14, false, []⟩, ⟨[0, 1, 2, 3, 8, 9], 0, false, []⟩, ⟨[0, 1, 2, 3, 8], 0, false, []⟩]
theorem m37_ok : cmpFn Try.prog 37 h37 = some m37 := by kernel_rfl

/- slices.heapSortCmpFunc[string] -/
def m38r0 : List MOper := [⟨.mv (.tmp 1), none, (some 13), [1]⟩,
  ⟨.mv (.tmp 13), none, (some 8), [13]⟩]
def m38r1 : List MOper := [⟨.mv (.lit (.int .i64 0)), none, (some 9), []⟩]
def m38r2 : List MOper := [⟨.mv (.tmp 2), none, (some 14), [2]⟩,
  ⟨.mv (.tmp 1), none, (some 15), [1]⟩,
  ⟨.bin .sub .other (.tmp 14) (.tmp 15), none, (some 16), [14, 15]⟩,
  ⟨.mv (.tmp 16), none, (some 10), [16]⟩]
def m38r3 : List MOper := [⟨.mv (.tmp 10), none, (some 17), [10]⟩,
  ⟨.bin .sub .other (.tmp 17) (.lit (.int .i64 1)), none, (some 18), [17]⟩,
  ⟨.bin .quo .other (.tmp 18) (.lit (.int .i64 2)), none, (some 19), [18]⟩,
  ⟨.mv (.tmp 19), none, (some 11), [19]⟩]
def m38r4 : List MOper := [⟨.mv (.tmp 11), none, (some 20), [11]⟩,
  ⟨.bin .geq .other (.tmp 20) (.lit (.int .i64 0)), none, (some 21), [20]⟩]
def m38r5 : List MOper := [⟨.mv (.tmp 0), none, (some 24), [0]⟩,
  ⟨.mv (.tmp 11), none, (some 25), [11]⟩,
  ⟨.mv (.tmp 10), none, (some 26), [10]⟩,
  ⟨.mv (.tmp 8), none, (some 27), [8]⟩,
  ⟨.mv (.tmp 3), none, (some 28), [3]⟩,
  ⟨.call 51 [(.tmp 24), (.tmp 25), (.tmp 26), (.tmp 27), (.tmp 28)], none, (some 29), [24, 25, 26, 27, 28]⟩]
def m38r6 : List MOper := [⟨.mv (.tmp 11), none, (some 22), [11]⟩,
  ⟨.bin .sub .other (.tmp 22) (.lit (.int .i64 1)), none, (some 23), [22]⟩,
  ⟨.mv (.tmp 23), none, (some 11), [23]⟩]
def m38l7 : MCode := (.seq (.seq (.region m38r4 [0, 3, 8, 9, 10, 11, 21])
  (.cond (.tmp 21)
  .skip
  (.exit 0)))
  (.seq (.block 1 (.region m38r5 [0, 3, 8, 9, 10, 11]))
  (.region m38r6 [0, 3, 8, 9, 10, 11])))
def m38r8 : List MOper := [⟨.mv (.tmp 10), none, (some 30), [10]⟩,
  ⟨.bin .sub .other (.tmp 30) (.lit (.int .i64 1)), none, (some 31), [30]⟩,
  ⟨.mv (.tmp 31), none, (some 12), [31]⟩]
def m38r9 : List MOper := [⟨.mv (.tmp 12), none, (some 32), [12]⟩,
  ⟨.bin .geq .other (.tmp 32) (.lit (.int .i64 0)), none, (some 33), [32]⟩]
def m38r10 : List MOper := [⟨.mv (.tmp 0), none, (some 36), [0]⟩,
  ⟨.mv (.tmp 8), none, (some 37), [8]⟩,
  ⟨.mv (.tmp 0), none, (some 38), [0]⟩,
  ⟨.mv (.tmp 8), none, (some 39), [8]⟩,
  ⟨.mv (.tmp 12), none, (some 40), [12]⟩,
  ⟨.bin .add .other (.tmp 39) (.tmp 40), none, (some 41), [39, 40]⟩,
  ⟨.mv (.tmp 0), none, (some 42), [0]⟩,
  ⟨.mv (.tmp 8), none, (some 43), [8]⟩,
  ⟨.mv (.tmp 12), none, (some 44), [12]⟩,
  ⟨.bin .add .other (.tmp 43) (.tmp 44), none, (some 45), [43, 44]⟩,
  ⟨.iaddr 1 (.tmp 42) (.tmp 45), none, (some 46), [42, 45]⟩,
  ⟨.load none (.tmp 46), none, (some 47), [46]⟩,
  ⟨.mv (.tmp 0), none, (some 48), [0]⟩,
  ⟨.mv (.tmp 8), none, (some 49), [8]⟩,
  ⟨.iaddr 1 (.tmp 48) (.tmp 49), none, (some 50), [48, 49]⟩,
  ⟨.load none (.tmp 50), none, (some 51), [50]⟩]
def m38r11 : List MOper := [⟨.iaddr 1 (.tmp 36) (.tmp 37), none, (some 52), [36, 37]⟩,
  ⟨.store 1 (.tmp 52) (.tmp 47), none, none, [52, 47]⟩,
  ⟨.iaddr 1 (.tmp 38) (.tmp 41), none, (some 53), [38, 41]⟩,
  ⟨.store 1 (.tmp 53) (.tmp 51), none, none, [53, 51]⟩]
def m38r12 : List MOper := [⟨.mv (.tmp 0), none, (some 54), [0]⟩,
  ⟨.mv (.tmp 9), none, (some 55), [9]⟩,
  ⟨.mv (.tmp 12), none, (some 56), [12]⟩,
  ⟨.mv (.tmp 8), none, (some 57), [8]⟩,
  ⟨.mv (.tmp 3), none, (some 58), [3]⟩,
  ⟨.call 51 [(.tmp 54), (.tmp 55), (.tmp 56), (.tmp 57), (.tmp 58)], none, (some 59), [54, 55, 56, 57, 58]⟩]
def m38r13 : List MOper := [⟨.mv (.tmp 12), none, (some 34), [12]⟩,
  ⟨.bin .sub .other (.tmp 34) (.lit (.int .i64 1)), none, (some 35), [34]⟩,
  ⟨.mv (.tmp 35), none, (some 12), [35]⟩]
def m38l14 : MCode := (.seq (.seq (.region m38r9 [0, 3, 8, 9, 12, 33])
  (.cond (.tmp 33)
  .skip
  (.exit 2)))
  (.seq (.block 3 (.seq (.dregion m38r10 m38r11 [] [0, 3, 8, 9, 12])
  (.region m38r12 [0, 3, 8, 9, 12])))
  (.region m38r13 [0, 3, 8, 9, 12])))
def m38 : MFunc := ⟨60, [],
  (.seq (.region m38r0 [0, 1, 2, 3, 8])
  (.seq (.region m38r1 [0, 1, 2, 3, 8, 9])
  (.seq (.region m38r2 [0, 3, 8, 9, 10])
  (.seq (.seq (.region m38r3 [0, 3, 8, 9, 10, 11])
  (.block 0 (.loop [0, 3, 8, 9, 10, 11] m38l7)))
  (.seq (.region m38r8 [0, 3, 8, 9, 12])
  (.block 2 (.loop [0, 3, 8, 9, 12] m38l14)))))))⟩
def h38 : List RH := [⟨[0, 1, 2, 3, 8], 0, false, []⟩, ⟨[0, 1, 2, 3, 8, 9], 0, false, []⟩, ⟨[0, 3, 8, 9, 10], 0, false, []⟩, ⟨[0, 3, 8, 9, 10, 11], 0, false, []⟩, ⟨[0, 3, 8, 9, 10, 11], 0, false, []⟩, ⟨[0, 3, 8, 9, 10, 11, 21], 0, false, []⟩, ⟨[0, 3, 8, 9, 10, 11], 0, false, []⟩, ⟨[0, 3, 8, 9, 10, 11], 0, false, []⟩, ⟨[0, 3, 8, 9, 12], 0, false, []⟩, ⟨[0, 3, 8, 9, 12], 0, false, []⟩, ⟨[0, 3, 8, 9, 12, 33], 0, false, []⟩, ⟨[0, 3, 8, 9, 12], 16, false, []⟩, ⟨[0, 3, 8, 9, 12], 0, false, []⟩, ⟨[0, 3, 8, 9, 12], 0, false, []⟩]
theorem m38_ok : cmpFn Try.prog 38 h38 = some m38 := by kernel_rfl

/- slices.breakPatternsCmpFunc[string] -/
def m39r0 : List MOper := [⟨.mv (.tmp 2), none, (some 13), [2]⟩,
  ⟨.mv (.tmp 1), none, (some 14), [1]⟩,
  ⟨.bin .sub .other (.tmp 13) (.tmp 14), none, (some 15), [13, 14]⟩,
  ⟨.mv (.tmp 15), none, (some 8), [15]⟩]
def m39r1 : List MOper := [⟨.mv (.tmp 8), none, (some 16), [8]⟩,
  ⟨.bin .geq .other (.tmp 16) (.lit (.int .i64 8)), none, (some 17), [16]⟩]
def m39r2 : List MOper := [⟨.mv (.tmp 8), none, (some 18), [8]⟩,
  ⟨.conv .u64 (.tmp 18), none, (some 19), [18]⟩,
  ⟨.zbox [(.int .u64 0)], none, (some 9), []⟩,
  ⟨.store 1 (.tmp 9) (.tmp 19), none, none, [9, 19]⟩]
def m39r3 : List MOper := [⟨.mv (.tmp 8), none, (some 20), [8]⟩,
  ⟨.call 52 [(.tmp 20)], none, (some 21), [20]⟩,
  ⟨.mv (.tmp 21), none, (some 10), [21]⟩]
def m39r4 : List MOper := [⟨.mv (.tmp 1), none, (some 22), [1]⟩,
  ⟨.mv (.tmp 8), none, (some 23), [8]⟩,
  ⟨.bin .quo .other (.tmp 23) (.lit (.int .i64 4)), none, (some 24), [23]⟩,
  ⟨.bin .mul .other (.tmp 24) (.lit (.int .i64 2)), none, (some 25), [24]⟩,
  ⟨.bin .add .other (.tmp 22) (.tmp 25), none, (some 26), [22, 25]⟩,
  ⟨.bin .sub .other (.tmp 26) (.lit (.int .i64 1)), none, (some 27), [26]⟩,
  ⟨.mv (.tmp 27), none, (some 11), [27]⟩]
def m39r5 : List MOper := [⟨.mv (.tmp 11), none, (some 28), [11]⟩,
  ⟨.mv (.tmp 1), none, (some 29), [1]⟩,
  ⟨.mv (.tmp 8), none, (some 30), [8]⟩,
  ⟨.bin .quo .other (.tmp 30) (.lit (.int .i64 4)), none, (some 31), [30]⟩,
  ⟨.bin .mul .other (.tmp 31) (.lit (.int .i64 2)), none, (some 32), [31]⟩,
  ⟨.bin .add .other (.tmp 29) (.tmp 32), none, (some 33), [29, 32]⟩,
  ⟨.bin .add .other (.tmp 33) (.lit (.int .i64 1)), none, (some 34), [33]⟩,
  ⟨.bin .leq .other (.tmp 28) (.tmp 34), none, (some 35), [28, 34]⟩]
def m39r6 : List MOper := [⟨.call 53 [(.tmp 9)], none, (some 38), [9]⟩,
  ⟨.mv (.tmp 10), none, (some 39), [10]⟩,
  ⟨.bin .sub .other (.tmp 39) (.lit (.int .u64 1)), none, (some 40), [39]⟩,
  ⟨.bin .and .other (.tmp 38) (.tmp 40), none, (some 41), [38, 40]⟩,
  ⟨.conv .i64 (.tmp 41), none, (some 42), [41]⟩,
  ⟨.mv (.tmp 42), none, (some 12), [42]⟩]
def m39r7 : List MOper := [⟨.mv (.tmp 12), none, (some 43), [12]⟩,
  ⟨.mv (.tmp 8), none, (some 44), [8]⟩,
  ⟨.bin .geq .other (.tmp 43) (.tmp 44), none, (some 45), [43, 44]⟩]
def m39r8 : List MOper := [⟨.mv (.tmp 12), none, (some 46), [12]⟩,
  ⟨.mv (.tmp 8), none, (some 47), [8]⟩,
  ⟨.bin .sub .other (.tmp 46) (.tmp 47), none, (some 48), [46, 47]⟩,
  ⟨.mv (.tmp 48), none, (some 12), [48]⟩]
def m39r9 : List MOper := [⟨.mv (.tmp 0), none, (some 49), [0]⟩,
  ⟨.mv (.tmp 11), none, (some 50), [11]⟩,
  ⟨.mv (.tmp 0), none, (some 51), [0]⟩,
  ⟨.mv (.tmp 1), none, (some 52), [1]⟩,
  ⟨.mv (.tmp 12), none, (some 53), [12]⟩,
  ⟨.bin .add .other (.tmp 52) (.tmp 53), none, (some 54), [52, 53]⟩,
  ⟨.mv (.tmp 0), none, (some 55), [0]⟩,
  ⟨.mv (.tmp 1), none, (some 56), [1]⟩,
  ⟨.mv (.tmp 12), none, (some 57), [12]⟩,
  ⟨.bin .add .other (.tmp 56) (.tmp 57), none, (some 58), [56, 57]⟩,
  ⟨.iaddr 1 (.tmp 55) (.tmp 58), none, (some 59), [55, 58]⟩,
  ⟨.load none (.tmp 59), none, (some 60), [59]⟩,
  ⟨.mv (.tmp 0), none, (some 61), [0]⟩,
  ⟨.mv (.tmp 11), none, (some 62), [11]⟩,
  ⟨.iaddr 1 (.tmp 61) (.tmp 62), none, (some 63), [61, 62]⟩,
  ⟨.load none (.tmp 63), none, (some 64), [63]⟩]
def m39r10 : List MOper := [⟨.iaddr 1 (.tmp 49) (.tmp 50), none, (some 65), [49, 50]⟩,
  ⟨.store 1 (.tmp 65) (.tmp 60), none, none, [65, 60]⟩,
  ⟨.iaddr 1 (.tmp 51) (.tmp 54), none, (some 66), [51, 54]⟩,
  ⟨.store 1 (.tmp 66) (.tmp 64), none, none, [66, 64]⟩]
def m39r11 : List MOper := [⟨.mv (.tmp 11), none, (some 36), [11]⟩,
  ⟨.bin .add .other (.tmp 36) (.lit (.int .i64 1)), none, (some 37), [36]⟩,
  ⟨.mv (.tmp 37), none, (some 11), [37]⟩]
def m39l12 : MCode := (.seq (.seq (.region m39r5 [0, 1, 8, 9, 10, 11, 35])
  (.cond (.tmp 35)
  .skip
  (.exit 0)))
  (.seq (.block 1 (.seq (.region m39r6 [0, 1, 8, 9, 10, 11, 12])
  (.seq (.seq (.region m39r7 [0, 1, 8, 9, 10, 11, 12, 45])
  (.cond (.tmp 45)
  (.region m39r8 [0, 1, 8, 9, 10, 11, 12])
  .skip))
  (.dregion m39r9 m39r10 [] [0, 1, 8, 9, 10, 11]))))
  (.region m39r11 [0, 1, 8, 9, 10, 11])))
def m39 : MFunc := ⟨67, [],
  (.seq (.region m39r0 [0, 1, 8])
  (.seq (.region m39r1 [0, 1, 8, 17])
  (.cond (.tmp 17)
  (.seq (.region m39r2 [0, 1, 8, 9])
  (.seq (.region m39r3 [0, 1, 8, 9, 10])
  (.seq (.region m39r4 [0, 1, 8, 9, 10, 11])
  (.block 0 (.loop [0, 1, 8, 9, 10, 11] m39l12)))))
  .skip)))⟩
def h39 : List RH := [⟨[0, 1, 8], 0, false, []⟩, ⟨[0, 1, 8, 17], 0, false, []⟩, ⟨[0, 1, 8, 9], 0, false, []⟩, ⟨[0, 1, 8, 9, 10], 0, false, []⟩, ⟨[0, 1, 8, 9, 10, 11], 0, false, []⟩, ⟨[0, 1, 8, 9, 10, 11], 0, false, []⟩, ⟨[0, 1, 8, 9, 10, 11, 35], 0, false, []⟩, ⟨[0, 1, 8, 9, 10, 11, 12], 0, false, []⟩, ⟨[0, 1, 8, 9, 10, 11, 12, 45], 0, false, []⟩, ⟨[0, 1, 8, 9, 10, 11, 12], 0, false, []⟩, ⟨[0, 1, 8, 9, 10, 11], 16, false, []⟩, ⟨[0, 1, 8, 9, 10, 11], 0, false, []⟩]
theorem m39_ok : cmpFn Try.prog 39 h39 = some m39 := by kernel_rfl

/- slices.choosePivotCmpFunc[string] -/
def m40r0 : List MOper := [⟨.mv (.lit (.int .i64 0)), none, (some 8), []⟩,
  ⟨.mv (.lit (.int .i64 0)), none, (some 9), []⟩]
def m40r1 : List MOper := [⟨.mv (.tmp 2), none, (some 15), [2]⟩,
  ⟨.mv (.tmp 1), none, (some 16), [1]⟩,
  ⟨.bin .sub .other (.tmp 15) (.tmp 16), none, (some 17), [15, 16]⟩,
  ⟨.mv (.tmp 17), none, (some 10), [17]⟩]
def m40r2 : List MOper := [⟨.zbox [(.int .i64 0)], none, (some 11), []⟩]
def m40r3 : List MOper := [⟨.mv (.tmp 1), none, (some 18), [1]⟩,
  ⟨.mv (.tmp 10), none, (some 19), [10]⟩,
  ⟨.bin .quo .other (.tmp 19) (.lit (.int .i64 4)), none, (some 20), [19]⟩,
  ⟨.bin .mul .other (.tmp 20) (.lit (.int .i64 1)), none, (some 21), [20]⟩,
  ⟨.bin .add .other (.tmp 18) (.tmp 21), none, (some 22), [18, 21]⟩,
  ⟨.mv (.tmp 22), none, (some 12), [22]⟩]
def m40r4 : List MOper := [⟨.mv (.tmp 1), none, (some 23), [1]⟩,
  ⟨.mv (.tmp 10), none, (some 24), [10]⟩,
  ⟨.bin .quo .other (.tmp 24) (.lit (.int .i64 4)), none, (some 25), [24]⟩,
  ⟨.bin .mul .other (.tmp 25) (.lit (.int .i64 2)), none, (some 26), [25]⟩,
  ⟨.bin .add .other (.tmp 23) (.tmp 26), none, (some 27), [23, 26]⟩,
  ⟨.mv (.tmp 27), none, (some 13), [27]⟩]
def m40r5 : List MOper := [⟨.mv (.tmp 1), none, (some 28), [1]⟩,
  ⟨.mv (.tmp 10), none, (some 29), [10]⟩,
  ⟨.bin .quo .other (.tmp 29) (.lit (.int .i64 4)), none, (some 30), [29]⟩,
  ⟨.bin .mul .other (.tmp 30) (.lit (.int .i64 3)), none, (some 31), [30]⟩,
  ⟨.bin .add .other (.tmp 28) (.tmp 31), none, (some 32), [28, 31]⟩,
  ⟨.mv (.tmp 32), none, (some 14), [32]⟩]
def m40r6 : List MOper := [⟨.mv (.tmp 10), none, (some 33), [10]⟩,
  ⟨.bin .geq .other (.tmp 33) (.lit (.int .i64 8)), none, (some 34), [33]⟩]
def m40r7 : List MOper := [⟨.mv (.tmp 10), none, (some 35), [10]⟩,
  ⟨.bin .geq .other (.tmp 35) (.lit (.int .i64 50)), none, (some 36), [35]⟩]
def m40r8 : List MOper := [⟨.mv (.tmp 0), none, (some 37), [0]⟩,
  ⟨.mv (.tmp 12), none, (some 38), [12]⟩,
  ⟨.mv (.tmp 3), none, (some 39), [3]⟩,
  ⟨.call 54 [(.tmp 37), (.tmp 38), (.tmp 11), (.tmp 39)], none, (some 40), [37, 38, 11, 39]⟩,
  ⟨.mv (.tmp 40), none, (some 12), [40]⟩]
def m40r9 : List MOper := [⟨.mv (.tmp 0), none, (some 41), [0]⟩,
  ⟨.mv (.tmp 13), none, (some 42), [13]⟩,
  ⟨.mv (.tmp 3), none, (some 43), [3]⟩,
  ⟨.call 54 [(.tmp 41), (.tmp 42), (.tmp 11), (.tmp 43)], none, (some 44), [41, 42, 11, 43]⟩,
  ⟨.mv (.tmp 44), none, (some 13), [44]⟩]
def m40r10 : List MOper := [⟨.mv (.tmp 0), none, (some 45), [0]⟩,
  ⟨.mv (.tmp 14), none, (some 46), [14]⟩,
  ⟨.mv (.tmp 3), none, (some 47), [3]⟩,
  ⟨.call 54 [(.tmp 45), (.tmp 46), (.tmp 11), (.tmp 47)], none, (some 48), [45, 46, 11, 47]⟩,
  ⟨.mv (.tmp 48), none, (some 14), [48]⟩]
def m40r11 : List MOper := [⟨.mv (.tmp 0), none, (some 49), [0]⟩,
  ⟨.mv (.tmp 12), none, (some 50), [12]⟩,
  ⟨.mv (.tmp 13), none, (some 51), [13]⟩,
  ⟨.mv (.tmp 14), none, (some 52), [14]⟩,
  ⟨.mv (.tmp 3), none, (some 53), [3]⟩,
  ⟨.call 55 [(.tmp 49), (.tmp 50), (.tmp 51), (.tmp 52), (.tmp 11), (.tmp 53)], none, (some 54), [49, 50, 51, 52, 11, 53]⟩,
  ⟨.mv (.tmp 54), none, (some 13), [54]⟩]
def m40r12 : List MOper := [⟨.load none (.tmp 11), none, (some 55), [11]⟩]
def m40r13 : List MOper := [⟨.bin .eql .other (.tmp 55) (.lit (.int .i64 0)), none, (some 58), [55]⟩,
  ⟨.mv (.tmp 58), none, (some 57), [58]⟩]
def m40r14 : List MOper := [⟨.mv (.tmp 13), none, (some 59), [13]⟩,
  ⟨.mv (.tmp 59), none, (some 8), [59]⟩,
  ⟨.mv (.lit (.int .i64 1)), none, (some 9), []⟩]
def m40r15 : List MOper := [⟨.bin .eql .other (.tmp 55) (.lit (.int .i64 12)), none, (some 61), [55]⟩,
  ⟨.mv (.tmp 61), none, (some 60), [61]⟩]
def m40r16 : List MOper := [⟨.mv (.tmp 13), none, (some 62), [13]⟩,
  ⟨.mv (.tmp 62), none, (some 8), [62]⟩,
  ⟨.mv (.lit (.int .i64 2)), none, (some 9), []⟩]
def m40r17 : List MOper := [⟨.mv (.tmp 13), none, (some 56), [13]⟩,
  ⟨.mv (.tmp 56), none, (some 8), [56]⟩,
  ⟨.mv (.lit (.int .i64 0)), none, (some 9), []⟩]
def m40 : MFunc := ⟨63, [.tmp 8, .tmp 9],
  (.seq (.region m40r0 [0, 1, 2, 3])
  (.seq (.region m40r1 [0, 1, 3, 10])
  (.seq (.region m40r2 [0, 1, 3, 10, 11])
  (.seq (.region m40r3 [0, 1, 3, 10, 11, 12])
  (.seq (.region m40r4 [0, 1, 3, 10, 11, 12, 13])
  (.seq (.region m40r5 [0, 3, 10, 11, 12, 13, 14])
  (.seq (.seq (.region m40r6 [0, 3, 10, 11, 12, 13, 14, 34])
  (.cond (.tmp 34)
  (.seq (.seq (.region m40r7 [0, 3, 11, 12, 13, 14, 36])
  (.cond (.tmp 36)
  (.seq (.region m40r8 [0, 3, 11, 12, 13, 14])
  (.seq (.region m40r9 [0, 3, 11, 12, 13, 14])
  (.region m40r10 [0, 3, 11, 12, 13, 14])))
  .skip))
  (.region m40r11 [11, 13]))
  .skip))
  (.seq (.region m40r12 [13, 55])
  (.block 0 (.seq (.region m40r13 [13, 55, 57])
  (.cond (.tmp 57)
  (.seq (.region m40r14 [8, 9])
  .ret)
  (.seq (.region m40r15 [13, 60])
  (.cond (.tmp 60)
  (.seq (.region m40r16 [8, 9])
  .ret)
  (.seq (.region m40r17 [8, 9])
  .ret))))))))))))))⟩
def h40 : List RH := [⟨[0, 1, 2, 3], 0, false, []⟩, ⟨[0, 1, 3, 10], 0, false, []⟩, ⟨[0, 1, 3, 10, 11], 0, false, []⟩, ⟨[0, 1, 3, 10, 11, 12], 0, false, []⟩, ⟨[0, 1, 3, 10, 11, 12, 13], 0, false, []⟩, ⟨[0, 3, 10, 11, 12, 13, 14], 0, false, []⟩, ⟨[0, 3, 10, 11, 12, 13, 14, 34], 0, false, []⟩, ⟨[0, 3, 11, 12, 13, 14, 36], 0, false, []⟩, ⟨[0, 3, 11, 12, 13, 14], 0, false, []⟩, ⟨[0, 3, 11, 12, 13, 14], 0, false, []⟩, ⟨[0, 3, 11, 12, 13, 14], 0, false, []⟩, ⟨[11, 13], 0, false, []⟩, ⟨[13, 55], 0, false, []⟩, ⟨[13, 55, 57], 0, false, []⟩, ⟨[8, 9], 0, false, []⟩, ⟨[13, 60], 0, false, []⟩, ⟨[8, 9], 0, false, []⟩, ⟨[8, 9], 0, false, []⟩]
theorem m40_ok : cmpFn Try.prog 40 h40 = some m40 := by kernel_rfl

/- slices.reverseRangeCmpFunc[string] -/
def m41r0 : List MOper := [⟨.mv (.tmp 1), none, (some 10), [1]⟩,
  ⟨.mv (.tmp 10), none, (some 8), [10]⟩]
def m41r1 : List MOper := [⟨.mv (.tmp 2), none, (some 11), [2]⟩,
  ⟨.bin .sub .other (.tmp 11) (.lit (.int .i64 1)), none, (some 12), [11]⟩,
  ⟨.mv (.tmp 12), none, (some 9), [12]⟩]
def m41r2 : List MOper := [⟨.mv (.tmp 8), none, (some 13), [8]⟩,
  ⟨.mv (.tmp 9), none, (some 14), [9]⟩,
  ⟨.bin .lss .other (.tmp 13) (.tmp 14), none, (some 15), [13, 14]⟩]
def m41r3 : List MOper := [⟨.mv (.tmp 0), none, (some 16), [0]⟩,
  ⟨.mv (.tmp 8), none, (some 17), [8]⟩,
  ⟨.mv (.tmp 0), none, (some 18), [0]⟩,
  ⟨.mv (.tmp 9), none, (some 19), [9]⟩,
  ⟨.mv (.tmp 0), none, (some 20), [0]⟩,
  ⟨.mv (.tmp 9), none, (some 21), [9]⟩,
  ⟨.iaddr 1 (.tmp 20) (.tmp 21), none, (some 22), [20, 21]⟩,
  ⟨.load none (.tmp 22), none, (some 23), [22]⟩,
  ⟨.mv (.tmp 0), none, (some 24), [0]⟩,
  ⟨.mv (.tmp 8), none, (some 25), [8]⟩,
  ⟨.iaddr 1 (.tmp 24) (.tmp 25), none, (some 26), [24, 25]⟩,
  ⟨.load none (.tmp 26), none, (some 27), [26]⟩]
def m41r4 : List MOper := [⟨.iaddr 1 (.tmp 16) (.tmp 17), none, (some 28), [16, 17]⟩,
  ⟨.store 1 (.tmp 28) (.tmp 23), none, none, [28, 23]⟩,
  ⟨.iaddr 1 (.tmp 18) (.tmp 19), none, (some 29), [18, 19]⟩,
  ⟨.store 1 (.tmp 29) (.tmp 27), none, none, [29, 27]⟩]
def m41r5 : List MOper := [⟨.mv (.tmp 8), none, (some 30), [8]⟩,
  ⟨.bin .add .other (.tmp 30) (.lit (.int .i64 1)), none, (some 31), [30]⟩,
  ⟨.mv (.tmp 31), none, (some 8), [31]⟩]
def m41r6 : List MOper := [⟨.mv (.tmp 9), none, (some 32), [9]⟩,
  ⟨.bin .sub .other (.tmp 32) (.lit (.int .i64 1)), none, (some 33), [32]⟩,
  ⟨.mv (.tmp 33), none, (some 9), [33]⟩]
def m41l7 : MCode := (.seq (.seq (.region m41r2 [0, 8, 9, 15])
  (.cond (.tmp 15)
  .skip
  (.exit 0)))
  (.block 1 (.seq (.dregion m41r3 m41r4 [] [0, 8, 9])
  (.seq (.region m41r5 [0, 8, 9])
  (.region m41r6 [0, 8, 9])))))
def m41 : MFunc := ⟨34, [],
  (.seq (.region m41r0 [0, 2, 8])
  (.seq (.region m41r1 [0, 8, 9])
  (.block 0 (.loop [0, 8, 9] m41l7))))⟩
def h41 : List RH := [⟨[0, 2, 8], 0, false, []⟩, ⟨[0, 8, 9], 0, false, []⟩, ⟨[0, 8, 9], 0, false, []⟩, ⟨[0, 8, 9, 15], 0, false, []⟩, ⟨[0, 8, 9], 12, false, []⟩, ⟨[0, 8, 9], 0, false, []⟩, ⟨[0, 8, 9], 0, false, []⟩]
theorem m41_ok : cmpFn Try.prog 41 h41 = some m41 := by kernel_rfl

/- slices.partialInsertionSortCmpFunc[string] -/
def m42r0 : List MOper := [⟨.mv (.lit (.bool false)), none, (some 8), []⟩]
def m42r1 : List MOper := [⟨.mv (.tmp 1), none, (some 13), [1]⟩,
  ⟨.bin .add .other (.tmp 13) (.lit (.int .i64 1)), none, (some 14), [13]⟩,
  ⟨.mv (.tmp 14), none, (some 9), [14]⟩]
def m42r2 : List MOper := [⟨.mv (.lit (.int .i64 0)), none, (some 10), []⟩]
def m42r3 : List MOper := [⟨.mv (.tmp 10), none, (some 15), [10]⟩,
  ⟨.bin .lss .other (.tmp 15) (.lit (.int .i64 5)), none, (some 16), [15]⟩]
def m42r4 : List MOper := [⟨.mv (.tmp 9), none, (some 19), [9]⟩,
  ⟨.mv (.tmp 2), none, (some 20), [2]⟩,
  ⟨.bin .lss .other (.tmp 19) (.tmp 20), none, (some 21), [19, 20]⟩,
  ⟨.mv (.tmp 21), none, (some 22), [21]⟩,
  ⟨.mv (.tmp 3), (some (22, true)), (some 23), [3]⟩,
  ⟨.mv (.tmp 0), (some (22, true)), (some 24), [0]⟩,
  ⟨.mv (.tmp 9), (some (22, true)), (some 25), [9]⟩,
  ⟨.iaddr 1 (.tmp 24) (.tmp 25), (some (22, true)), (some 26), [24, 25]⟩,
  ⟨.load none (.tmp 26), (some (22, true)), (some 27), [26]⟩,
  ⟨.mv (.tmp 0), (some (22, true)), (some 28), [0]⟩,
  ⟨.mv (.tmp 9), (some (22, true)), (some 29), [9]⟩,
  ⟨.bin .sub .other (.tmp 29) (.lit (.int .i64 1)), (some (22, true)), (some 30), [29]⟩,
  ⟨.iaddr 1 (.tmp 28) (.tmp 30), (some (22, true)), (some 31), [28, 30]⟩,
  ⟨.load none (.tmp 31), (some (22, true)), (some 32), [31]⟩]
def m42r5 : List MOper := [⟨.callv (.tmp 23) [(.tmp 27), (.tmp 32)], (some (22, true)), (some 33), [23, 27, 32]⟩,
  ⟨.bin .lss .other (.tmp 33) (.lit (.int .i64 0)), (some (22, true)), (some 34), [33]⟩,
  ⟨.un .not (.tmp 34), (some (22, true)), (some 35), [34]⟩,
  ⟨.pick (.tmp 22) (.tmp 35) (.lit (.bool false)), none, (some 36), [22, 35]⟩]
def m42r6 : List MOper := [⟨.mv (.tmp 9), none, (some 37), [9]⟩,
  ⟨.bin .add .other (.tmp 37) (.lit (.int .i64 1)), none, (some 38), [37]⟩,
  ⟨.mv (.tmp 38), none, (some 9), [38]⟩]
def m42l7 : MCode := (.seq (.seq (.dregion m42r4 m42r5 [] [0, 1, 2, 3, 9, 10, 36])
  (.cond (.tmp 36)
  .skip
  (.exit 2)))
  (.block 3 (.region m42r6 [0, 1, 2, 3, 9, 10])))
def m42r8 : List MOper := [⟨.mv (.tmp 9), none, (some 39), [9]⟩,
  ⟨.mv (.tmp 2), none, (some 40), [2]⟩,
  ⟨.bin .eql .other (.tmp 39) (.tmp 40), none, (some 41), [39, 40]⟩]
def m42r9 : List MOper := [⟨.mv (.lit (.bool true)), none, (some 8), []⟩]
def m42r10 : List MOper := [⟨.mv (.tmp 2), none, (some 42), [2]⟩,
  ⟨.mv (.tmp 1), none, (some 43), [1]⟩,
  ⟨.bin .sub .other (.tmp 42) (.tmp 43), none, (some 44), [42, 43]⟩,
  ⟨.bin .lss .other (.tmp 44) (.lit (.int .i64 50)), none, (some 45), [44]⟩]
def m42r11 : List MOper := [⟨.mv (.lit (.bool false)), none, (some 8), []⟩]
def m42r12 : List MOper := [⟨.mv (.tmp 0), none, (some 46), [0]⟩,
  ⟨.mv (.tmp 9), none, (some 47), [9]⟩,
  ⟨.mv (.tmp 0), none, (some 48), [0]⟩,
  ⟨.mv (.tmp 9), none, (some 49), [9]⟩,
  ⟨.bin .sub .other (.tmp 49) (.lit (.int .i64 1)), none, (some 50), [49]⟩,
  ⟨.mv (.tmp 0), none, (some 51), [0]⟩,
  ⟨.mv (.tmp 9), none, (some 52), [9]⟩,
  ⟨.bin .sub .other (.tmp 52) (.lit (.int .i64 1)), none, (some 53), [52]⟩,
  ⟨.iaddr 1 (.tmp 51) (.tmp 53), none, (some 54), [51, 53]⟩,
  ⟨.load none (.tmp 54), none, (some 55), [54]⟩,
  ⟨.mv (.tmp 0), none, (some 56), [0]⟩,
  ⟨.mv (.tmp 9), none, (some 57), [9]⟩,
  ⟨.iaddr 1 (.tmp 56) (.tmp 57), none, (some 58), [56, 57]⟩,
  ⟨.load none (.tmp 58), none, (some 59), [58]⟩]
def m42r13 : List MOper := [⟨.iaddr 1 (.tmp 46) (.tmp 47), none, (some 60), [46, 47]⟩,
  ⟨.store 1 (.tmp 60) (.tmp 55), none, none, [60, 55]⟩,
  ⟨.iaddr 1 (.tmp 48) (.tmp 50), none, (some 61), [48, 50]⟩,
  ⟨.store 1 (.tmp 61) (.tmp 59), none, none, [61, 59]⟩]
def m42r14 : List MOper := [⟨.mv (.tmp 9), none, (some 62), [9]⟩,
  ⟨.mv (.tmp 1), none, (some 63), [1]⟩,
  ⟨.bin .sub .other (.tmp 62) (.tmp 63), none, (some 64), [62, 63]⟩,
  ⟨.bin .geq .other (.tmp 64) (.lit (.int .i64 2)), none, (some 65), [64]⟩]
def m42r15 : List MOper := [⟨.mv (.tmp 9), none, (some 66), [9]⟩,
  ⟨.bin .sub .other (.tmp 66) (.lit (.int .i64 1)), none, (some 67), [66]⟩,
  ⟨.mv (.tmp 67), none, (some 11), [67]⟩]
def m42r16 : List MOper := [⟨.mv (.tmp 11), none, (some 68), [11]⟩,
  ⟨.bin .geq .other (.tmp 68) (.lit (.int .i64 1)), none, (some 69), [68]⟩]
def m42r17 : List MOper := [⟨.mv (.tmp 3), none, (some 72), [3]⟩,
  ⟨.mv (.tmp 0), none, (some 73), [0]⟩,
  ⟨.mv (.tmp 11), none, (some 74), [11]⟩,
  ⟨.iaddr 1 (.tmp 73) (.tmp 74), none, (some 75), [73, 74]⟩,
  ⟨.load none (.tmp 75), none, (some 76), [75]⟩,
  ⟨.mv (.tmp 0), none, (some 77), [0]⟩,
  ⟨.mv (.tmp 11), none, (some 78), [11]⟩,
  ⟨.bin .sub .other (.tmp 78) (.lit (.int .i64 1)), none, (some 79), [78]⟩,
  ⟨.iaddr 1 (.tmp 77) (.tmp 79), none, (some 80), [77, 79]⟩,
  ⟨.load none (.tmp 80), none, (some 81), [80]⟩]
def m42r18 : List MOper := [⟨.callv (.tmp 72) [(.tmp 76), (.tmp 81)], none, (some 82), [72, 76, 81]⟩,
  ⟨.bin .lss .other (.tmp 82) (.lit (.int .i64 0)), none, (some 83), [82]⟩,
  ⟨.un .not (.tmp 83), none, (some 84), [83]⟩]
def m42r19 : List MOper := [⟨.mv (.tmp 0), none, (some 85), [0]⟩,
  ⟨.mv (.tmp 11), none, (some 86), [11]⟩,
  ⟨.mv (.tmp 0), none, (some 87), [0]⟩,
  ⟨.mv (.tmp 11), none, (some 88), [11]⟩,
  ⟨.bin .sub .other (.tmp 88) (.lit (.int .i64 1)), none, (some 89), [88]⟩,
  ⟨.mv (.tmp 0), none, (some 90), [0]⟩,
  ⟨.mv (.tmp 11), none, (some 91), [11]⟩,
  ⟨.bin .sub .other (.tmp 91) (.lit (.int .i64 1)), none, (some 92), [91]⟩,
  ⟨.iaddr 1 (.tmp 90) (.tmp 92), none, (some 93), [90, 92]⟩,
  ⟨.load none (.tmp 93), none, (some 94), [93]⟩,
  ⟨.mv (.tmp 0), none, (some 95), [0]⟩,
  ⟨.mv (.tmp 11), none, (some 96), [11]⟩,
  ⟨.iaddr 1 (.tmp 95) (.tmp 96), none, (some 97), [95, 96]⟩,
  ⟨.load none (.tmp 97), none, (some 98), [97]⟩]
def m42r20 : List MOper := [⟨.iaddr 1 (.tmp 85) (.tmp 86), none, (some 99), [85, 86]⟩,
  ⟨.store 1 (.tmp 99) (.tmp 94), none, none, [99, 94]⟩,
  ⟨.iaddr 1 (.tmp 87) (.tmp 89), none, (some 100), [87, 89]⟩,
  ⟨.store 1 (.tmp 100) (.tmp 98), none, none, [100, 98]⟩]
def m42r21 : List MOper := [⟨.mv (.tmp 11), none, (some 70), [11]⟩,
  ⟨.bin .sub .other (.tmp 70) (.lit (.int .i64 1)), none, (some 71), [70]⟩,
  ⟨.mv (.tmp 71), none, (some 11), [71]⟩]
def m42l22 : MCode := (.seq (.seq (.region m42r16 [0, 1, 2, 3, 9, 10, 11, 69])
  (.cond (.tmp 69)
  .skip
  (.exit 4)))
  (.seq (.block 5 (.seq (.seq (.dregion m42r17 m42r18 [] [0, 1, 2, 3, 9, 10, 11, 84])
  (.cond (.tmp 84)
  (.exit 4)
  .skip))
  (.dregion m42r19 m42r20 [] [0, 1, 2, 3, 9, 10, 11])))
  (.region m42r21 [0, 1, 2, 3, 9, 10, 11])))
def m42r23 : List MOper := [⟨.mv (.tmp 2), none, (some 101), [2]⟩,
  ⟨.mv (.tmp 9), none, (some 102), [9]⟩,
  ⟨.bin .sub .other (.tmp 101) (.tmp 102), none, (some 103), [101, 102]⟩,
  ⟨.bin .geq .other (.tmp 103) (.lit (.int .i64 2)), none, (some 104), [103]⟩]
def m42r24 : List MOper := [⟨.mv (.tmp 9), none, (some 105), [9]⟩,
  ⟨.bin .add .other (.tmp 105) (.lit (.int .i64 1)), none, (some 106), [105]⟩,
  ⟨.mv (.tmp 106), none, (some 12), [106]⟩]
def m42r25 : List MOper := [⟨.mv (.tmp 12), none, (some 107), [12]⟩,
  ⟨.mv (.tmp 2), none, (some 108), [2]⟩,
  ⟨.bin .lss .other (.tmp 107) (.tmp 108), none, (some 109), [107, 108]⟩]
def m42r26 : List MOper := [⟨.mv (.tmp 3), none, (some 112), [3]⟩,
  ⟨.mv (.tmp 0), none, (some 113), [0]⟩,
  ⟨.mv (.tmp 12), none, (some 114), [12]⟩,
  ⟨.iaddr 1 (.tmp 113) (.tmp 114), none, (some 115), [113, 114]⟩,
  ⟨.load none (.tmp 115), none, (some 116), [115]⟩,
  ⟨.mv (.tmp 0), none, (some 117), [0]⟩,
  ⟨.mv (.tmp 12), none, (some 118), [12]⟩,
  ⟨.bin .sub .other (.tmp 118) (.lit (.int .i64 1)), none, (some 119), [118]⟩,
  ⟨.iaddr 1 (.tmp 117) (.tmp 119), none, (some 120), [117, 119]⟩,
  ⟨.load none (.tmp 120), none, (some 121), [120]⟩]
def m42r27 : List MOper := [⟨.callv (.tmp 112) [(.tmp 116), (.tmp 121)], none, (some 122), [112, 116, 121]⟩,
  ⟨.bin .lss .other (.tmp 122) (.lit (.int .i64 0)), none, (some 123), [122]⟩,
  ⟨.un .not (.tmp 123), none, (some 124), [123]⟩]
def m42r28 : List MOper := [⟨.mv (.tmp 0), none, (some 125), [0]⟩,
  ⟨.mv (.tmp 12), none, (some 126), [12]⟩,
  ⟨.mv (.tmp 0), none, (some 127), [0]⟩,
  ⟨.mv (.tmp 12), none, (some 128), [12]⟩,
  ⟨.bin .sub .other (.tmp 128) (.lit (.int .i64 1)), none, (some 129), [128]⟩,
  ⟨.mv (.tmp 0), none, (some 130), [0]⟩,
  ⟨.mv (.tmp 12), none, (some 131), [12]⟩,
  ⟨.bin .sub .other (.tmp 131) (.lit (.int .i64 1)), none, (some 132), [131]⟩,
  ⟨.iaddr 1 (.tmp 130) (.tmp 132), none, (some 133), [130, 132]⟩,
  ⟨.load none (.tmp 133), none, (some 134), [133]⟩,
  ⟨.mv (.tmp 0), none, (some 135), [0]⟩,
  ⟨.mv (.tmp 12), none, (some 136), [12]⟩,
  ⟨.iaddr 1 (.tmp 135) (.tmp 136), none, (some 137), [135, 136]⟩,
  ⟨.load none (.tmp 137), none, (some 138), [137]⟩]
def m42r29 : List MOper := [⟨.iaddr 1 (.tmp 125) (.tmp 126), none, (some 139), [125, 126]⟩,
  ⟨.store 1 (.tmp 139) (.tmp 134), none, none, [139, 134]⟩,
  ⟨.iaddr 1 (.tmp 127) (.tmp 129), none, (some 140), [127, 129]⟩,
  ⟨.store 1 (.tmp 140) (.tmp 138), none, none, [140, 138]⟩]
def m42r30 : List MOper := [⟨.mv (.tmp 12), none, (some 110), [12]⟩,
  ⟨.bin .add .other (.tmp 110) (.lit (.int .i64 1)), none, (some 111), [110]⟩,
  ⟨.mv (.tmp 111), none, (some 12), [111]⟩]
def m42l31 : MCode := (.seq (.seq (.region m42r25 [0, 1, 2, 3, 9, 10, 12, 109])
  (.cond (.tmp 109)
  .skip
  (.exit 6)))
  (.seq (.block 7 (.seq (.seq (.dregion m42r26 m42r27 [] [0, 1, 2, 3, 9, 10, 12, 124])
  (.cond (.tmp 124)
  (.exit 6)
  .skip))
  (.dregion m42r28 m42r29 [] [0, 1, 2, 3, 9, 10, 12])))
  (.region m42r30 [0, 1, 2, 3, 9, 10, 12])))
def m42r32 : List MOper := [⟨.mv (.tmp 10), none, (some 17), [10]⟩,
  ⟨.bin .add .other (.tmp 17) (.lit (.int .i64 1)), none, (some 18), [17]⟩,
  ⟨.mv (.tmp 18), none, (some 10), [18]⟩]
def m42l33 : MCode := (.seq (.seq (.region m42r3 [0, 1, 2, 3, 9, 10, 16])
  (.cond (.tmp 16)
  .skip
  (.exit 0)))
  (.seq (.block 1 (.seq (.block 2 (.loop [0, 1, 2, 3, 9, 10] m42l7))
  (.seq (.seq (.region m42r8 [0, 1, 2, 3, 9, 10, 41])
  (.cond (.tmp 41)
  (.seq (.region m42r9 [8])
  .ret)
  .skip))
  (.seq (.seq (.region m42r10 [0, 1, 2, 3, 9, 10, 45])
  (.cond (.tmp 45)
  (.seq (.region m42r11 [8])
  .ret)
  .skip))
  (.seq (.dregion m42r12 m42r13 [] [0, 1, 2, 3, 9, 10])
  (.seq (.seq (.region m42r14 [0, 1, 2, 3, 9, 10, 65])
  (.cond (.tmp 65)
  (.seq (.region m42r15 [0, 1, 2, 3, 9, 10, 11])
  (.block 4 (.loop [0, 1, 2, 3, 9, 10, 11] m42l22)))
  .skip))
  (.seq (.region m42r23 [0, 1, 2, 3, 9, 10, 104])
  (.cond (.tmp 104)
  (.seq (.region m42r24 [0, 1, 2, 3, 9, 10, 12])
  (.block 6 (.loop [0, 1, 2, 3, 9, 10, 12] m42l31)))
  .skip))))))))
  (.region m42r32 [0, 1, 2, 3, 9, 10])))
def m42r34 : List MOper := [⟨.mv (.lit (.bool false)), none, (some 8), []⟩]
def m42 : MFunc := ⟨141, [.tmp 8],
  (.seq (.region m42r0 [0, 1, 2, 3])
  (.seq (.region m42r1 [0, 1, 2, 3, 9])
  (.seq (.seq (.region m42r2 [0, 1, 2, 3, 9, 10])
  (.block 0 (.loop [0, 1, 2, 3, 9, 10] m42l33)))
  (.seq (.region m42r34 [8])
  .ret))))⟩
def h42 : List RH := [⟨[0, 1, 2, 3], 0, false, []⟩, ⟨[0, 1, 2, 3, 9], 0, false, []⟩, ⟨[0, 1, 2, 3, 9, 10], 0, false, []⟩, ⟨[0, 1, 2, 3, 9, 10], 0, false, []⟩, ⟨[0, 1, 2, 3, 9, 10, 16], 0, false, []⟩, ⟨[0, 1, 2, 3, 9, 10], 0, false, []⟩, ⟨[0, 1, 2, 3, 9, 10, 36], 14, false, []⟩, ⟨[0, 1, 2, 3, 9, 10], 0, false, []⟩, ⟨[0, 1, 2, 3, 9, 10, 41], 0, false, []⟩, ⟨[8], 0, false, []⟩, ⟨[0, 1, 2, 3, 9, 10, 45], 0, false, []⟩, ⟨[8], 0, false, []⟩, ⟨[0, 1, 2, 3, 9, 10], 14, false, []⟩, ⟨[0, 1, 2, 3, 9, 10, 65], 0, false, []⟩, ⟨[0, 1, 2, 3, 9, 10, 11], 0, false, []⟩, ⟨[0, 1, 2, 3, 9, 10, 11], 0, false, []⟩, ⟨[0, 1, 2, 3, 9, 10, 11, 69], 0, false, []⟩, ⟨[0, 1, 2, 3, 9, 10, 11, 84], 10, false, []⟩, ⟨[0, 1, 2, 3, 9, 10, 11], 14, false, []⟩, ⟨[0, 1, 2, 3, 9, 10, 11], 0, false, []⟩, ⟨[0, 1, 2, 3, 9, 10, 104], 0, false, []⟩, ⟨[0, 1, 2, 3, 9, 10, 12], 0, false, []⟩, ⟨[0, 1, 2, 3, 9, 10, 12], 0, false, []⟩, ⟨[0, 1, 2, 3, 9, 10, 12, 109], 0, false, []⟩, ⟨[0, 1, 2, 3, 9, 10, 12, 124], 10, false, []⟩, ⟨[0, 1, 2, 3, 9, 10, 12], 14, false, []⟩, ⟨[0, 1, 2, 3, 9, 10, 12], 0, false, []⟩, ⟨[0, 1, 2, 3, 9, 10], 0, false, []⟩, ⟨[8], 0, false, []⟩]
theorem m42_ok : cmpFn Try.prog 42 h42 = some m42 := by kernel_rfl

/- slices.partitionEqualCmpFunc[string] -/
def m43r0 : List MOper := [⟨.mv (.lit (.int .i64 0)), none, (some 10), []⟩]
def m43r1 : List MOper := [⟨.mv (.tmp 0), none, (some 13), [0]⟩,
  ⟨.mv (.tmp 1), none, (some 14), [1]⟩,
  ⟨.mv (.tmp 0), none, (some 15), [0]⟩,
  ⟨.mv (.tmp 3), none, (some 16), [3]⟩,
  ⟨.mv (.tmp 0), none, (some 17), [0]⟩,
  ⟨.mv (.tmp 3), none, (some 18), [3]⟩,
  ⟨.iaddr 1 (.tmp 17) (.tmp 18), none, (some 19), [17, 18]⟩,
  ⟨.load none (.tmp 19), none, (some 20), [19]⟩,
  ⟨.mv (.tmp 0), none, (some 21), [0]⟩,
  ⟨.mv (.tmp 1), none, (some 22), [1]⟩,
  ⟨.iaddr 1 (.tmp 21) (.tmp 22), none, (some 23), [21, 22]⟩,
  ⟨.load none (.tmp 23), none, (some 24), [23]⟩]
def m43r2 : List MOper := [⟨.iaddr 1 (.tmp 13) (.tmp 14), none, (some 25), [13, 14]⟩,
  ⟨.store 1 (.tmp 25) (.tmp 20), none, none, [25, 20]⟩,
  ⟨.iaddr 1 (.tmp 15) (.tmp 16), none, (some 26), [15, 16]⟩,
  ⟨.store 1 (.tmp 26) (.tmp 24), none, none, [26, 24]⟩]
def m43r3 : List MOper := [⟨.mv (.tmp 1), none, (some 27), [1]⟩,
  ⟨.bin .add .other (.tmp 27) (.lit (.int .i64 1)), none, (some 28), [27]⟩,
  ⟨.mv (.tmp 2), none, (some 29), [2]⟩,
  ⟨.bin .sub .other (.tmp 29) (.lit (.int .i64 1)), none, (some 30), [29]⟩,
  ⟨.mv (.tmp 28), none, (some 11), [28]⟩,
  ⟨.mv (.tmp 30), none, (some 12), [30]⟩]
def m43r4 : List MOper := [⟨.mv (.tmp 11), none, (some 31), [11]⟩,
  ⟨.mv (.tmp 12), none, (some 32), [12]⟩,
  ⟨.bin .leq .other (.tmp 31) (.tmp 32), none, (some 33), [31, 32]⟩,
  ⟨.mv (.tmp 33), none, (some 34), [33]⟩,
  ⟨.mv (.tmp 4), (some (34, true)), (some 35), [4]⟩,
  ⟨.mv (.tmp 0), (some (34, true)), (some 36), [0]⟩,
  ⟨.mv (.tmp 1), (some (34, true)), (some 37), [1]⟩,
  ⟨.iaddr 1 (.tmp 36) (.tmp 37), (some (34, true)), (some 38), [36, 37]⟩,
  ⟨.load none (.tmp 38), (some (34, true)), (some 39), [38]⟩,
  ⟨.mv (.tmp 0), (some (34, true)), (some 40), [0]⟩,
  ⟨.mv (.tmp 11), (some (34, true)), (some 41), [11]⟩,
  ⟨.iaddr 1 (.tmp 40) (.tmp 41), (some (34, true)), (some 42), [40, 41]⟩,
  ⟨.load none (.tmp 42), (some (34, true)), (some 43), [42]⟩]
def m43r5 : List MOper := [⟨.callv (.tmp 35) [(.tmp 39), (.tmp 43)], (some (34, true)), (some 44), [35, 39, 43]⟩,
  ⟨.bin .lss .other (.tmp 44) (.lit (.int .i64 0)), (some (34, true)), (some 45), [44]⟩,
  ⟨.un .not (.tmp 45), (some (34, true)), (some 46), [45]⟩,
  ⟨.pick (.tmp 34) (.tmp 46) (.lit (.bool false)), none, (some 47), [34, 46]⟩]
def m43r6 : List MOper := [⟨.mv (.tmp 11), none, (some 48), [11]⟩,
  ⟨.bin .add .other (.tmp 48) (.lit (.int .i64 1)), none, (some 49), [48]⟩,
  ⟨.mv (.tmp 49), none, (some 11), [49]⟩]
def m43l7 : MCode := (.seq (.seq (.dregion m43r4 m43r5 [] [0, 1, 4, 11, 12, 47])
  (.cond (.tmp 47)
  .skip
  (.exit 2)))
  (.block 3 (.region m43r6 [0, 1, 4, 11, 12])))
def m43r8 : List MOper := [⟨.mv (.tmp 11), none, (some 50), [11]⟩,
  ⟨.mv (.tmp 12), none, (some 51), [12]⟩,
  ⟨.bin .leq .other (.tmp 50) (.tmp 51), none, (some 52), [50, 51]⟩,
  ⟨.mv (.tmp 52), none, (some 53), [52]⟩,
  ⟨.mv (.tmp 4), (some (53, true)), (some 54), [4]⟩,
  ⟨.mv (.tmp 0), (some (53, true)), (some 55), [0]⟩,
  ⟨.mv (.tmp 1), (some (53, true)), (some 56), [1]⟩,
  ⟨.iaddr 1 (.tmp 55) (.tmp 56), (some (53, true)), (some 57), [55, 56]⟩,
  ⟨.load none (.tmp 57), (some (53, true)), (some 58), [57]⟩,
  ⟨.mv (.tmp 0), (some (53, true)), (some 59), [0]⟩,
  ⟨.mv (.tmp 12), (some (53, true)), (some 60), [12]⟩,
  ⟨.iaddr 1 (.tmp 59) (.tmp 60), (some (53, true)), (some 61), [59, 60]⟩,
  ⟨.load none (.tmp 61), (some (53, true)), (some 62), [61]⟩]
def m43r9 : List MOper := [⟨.callv (.tmp 54) [(.tmp 58), (.tmp 62)], (some (53, true)), (some 63), [54, 58, 62]⟩,
  ⟨.bin .lss .other (.tmp 63) (.lit (.int .i64 0)), (some (53, true)), (some 64), [63]⟩,
  ⟨.pick (.tmp 53) (.tmp 64) (.lit (.bool false)), none, (some 65), [53, 64]⟩]
def m43r10 : List MOper := [⟨.mv (.tmp 12), none, (some 66), [12]⟩,
  ⟨.bin .sub .other (.tmp 66) (.lit (.int .i64 1)), none, (some 67), [66]⟩,
  ⟨.mv (.tmp 67), none, (some 12), [67]⟩]
def m43l11 : MCode := (.seq (.seq (.dregion m43r8 m43r9 [] [0, 1, 4, 11, 12, 65])
  (.cond (.tmp 65)
  .skip
  (.exit 4)))
  (.block 5 (.region m43r10 [0, 1, 4, 11, 12])))
def m43r12 : List MOper := [⟨.mv (.tmp 11), none, (some 68), [11]⟩,
  ⟨.mv (.tmp 12), none, (some 69), [12]⟩,
  ⟨.bin .gtr .other (.tmp 68) (.tmp 69), none, (some 70), [68, 69]⟩]
def m43r13 : List MOper := [⟨.mv (.tmp 0), none, (some 71), [0]⟩,
  ⟨.mv (.tmp 11), none, (some 72), [11]⟩,
  ⟨.mv (.tmp 0), none, (some 73), [0]⟩,
  ⟨.mv (.tmp 12), none, (some 74), [12]⟩,
  ⟨.mv (.tmp 0), none, (some 75), [0]⟩,
  ⟨.mv (.tmp 12), none, (some 76), [12]⟩,
  ⟨.iaddr 1 (.tmp 75) (.tmp 76), none, (some 77), [75, 76]⟩,
  ⟨.load none (.tmp 77), none, (some 78), [77]⟩,
  ⟨.mv (.tmp 0), none, (some 79), [0]⟩,
  ⟨.mv (.tmp 11), none, (some 80), [11]⟩,
  ⟨.iaddr 1 (.tmp 79) (.tmp 80), none, (some 81), [79, 80]⟩,
  ⟨.load none (.tmp 81), none, (some 82), [81]⟩]
def m43r14 : List MOper := [⟨.iaddr 1 (.tmp 71) (.tmp 72), none, (some 83), [71, 72]⟩,
  ⟨.store 1 (.tmp 83) (.tmp 78), none, none, [83, 78]⟩,
  ⟨.iaddr 1 (.tmp 73) (.tmp 74), none, (some 84), [73, 74]⟩,
  ⟨.store 1 (.tmp 84) (.tmp 82), none, none, [84, 82]⟩]
def m43r15 : List MOper := [⟨.mv (.tmp 11), none, (some 85), [11]⟩,
  ⟨.bin .add .other (.tmp 85) (.lit (.int .i64 1)), none, (some 86), [85]⟩,
  ⟨.mv (.tmp 86), none, (some 11), [86]⟩]
def m43r16 : List MOper := [⟨.mv (.tmp 12), none, (some 87), [12]⟩,
  ⟨.bin .sub .other (.tmp 87) (.lit (.int .i64 1)), none, (some 88), [87]⟩,
  ⟨.mv (.tmp 88), none, (some 12), [88]⟩]
def m43l17 : MCode := (.block 1 (.seq (.block 2 (.loop [0, 1, 4, 11, 12] m43l7))
  (.seq (.block 4 (.loop [0, 1, 4, 11, 12] m43l11))
  (.seq (.seq (.region m43r12 [0, 1, 4, 11, 12, 70])
  (.cond (.tmp 70)
  (.exit 0)
  .skip))
  (.seq (.dregion m43r13 m43r14 [] [0, 1, 4, 11, 12])
  (.seq (.region m43r15 [0, 1, 4, 11, 12])
  (.region m43r16 [0, 1, 4, 11, 12])))))))
def m43r18 : List MOper := [⟨.mv (.tmp 11), none, (some 89), [11]⟩,
  ⟨.mv (.tmp 89), none, (some 10), [89]⟩]
def m43 : MFunc := ⟨90, [.tmp 10],
  (.seq (.region m43r0 [0, 1, 2, 3, 4])
  (.seq (.dregion m43r1 m43r2 [] [0, 1, 2, 4])
  (.seq (.region m43r3 [0, 1, 4, 11, 12])
  (.seq (.block 0 (.loop [0, 1, 4, 11, 12] m43l17))
  (.seq (.region m43r18 [10])
  .ret)))))⟩
def h43 : List RH := [⟨[0, 1, 2, 3, 4], 0, false, []⟩, ⟨[0, 1, 2, 4], 12, false, []⟩, ⟨[0, 1, 4, 11, 12], 0, false, []⟩, ⟨[0, 1, 4, 11, 12], 0, false, []⟩, ⟨[0, 1, 4, 11, 12], 0, false, []⟩, ⟨[0, 1, 4, 11, 12, 47], 13, false, []⟩, ⟨[0, 1, 4, 11, 12], 0, false, []⟩, ⟨[0, 1, 4, 11, 12], 0, false, []⟩, ⟨[0, 1, 4, 11, 12, 65], 13, false, []⟩, ⟨[0, 1, 4, 11, 12], 0, false, []⟩, ⟨[0, 1, 4, 11, 12, 70], 0, false, []⟩, ⟨[0, 1, 4, 11, 12], 12, false, []⟩, ⟨[0, 1, 4, 11, 12], 0, false, []⟩, ⟨[0, 1, 4, 11, 12], 0, false, []⟩, ⟨[10], 0, false, []⟩]
theorem m43_ok : cmpFn Try.prog 43 h43 = some m43 := by kernel_rfl

/- slices.partitionCmpFunc[string] -/
def m44r0 : List MOper := [⟨.mv (.lit (.int .i64 0)), none, (some 10), []⟩,
  ⟨.mv (.lit (.bool false)), none, (some 11), []⟩]
def m44r1 : List MOper := [⟨.mv (.tmp 0), none, (some 14), [0]⟩,
  ⟨.mv (.tmp 1), none, (some 15), [1]⟩,
  ⟨.mv (.tmp 0), none, (some 16), [0]⟩,
  ⟨.mv (.tmp 3), none, (some 17), [3]⟩,
  ⟨.mv (.tmp 0), none, (some 18), [0]⟩,
  ⟨.mv (.tmp 3), none, (some 19), [3]⟩,
  ⟨.iaddr 1 (.tmp 18) (.tmp 19), none, (some 20), [18, 19]⟩,
  ⟨.load none (.tmp 20), none, (some 21), [20]⟩,
  ⟨.mv (.tmp 0), none, (some 22), [0]⟩,
  ⟨.mv (.tmp 1), none, (some 23), [1]⟩,
  ⟨.iaddr 1 (.tmp 22) (.tmp 23), none, (some 24), [22, 23]⟩,
  ⟨.load none (.tmp 24), none, (some 25), [24]⟩]
def m44r2 : List MOper := [⟨.iaddr 1 (.tmp 14) (.tmp 15), none, (some 26), [14, 15]⟩,
  ⟨.store 1 (.tmp 26) (.tmp 21), none, none, [26, 21]⟩,
  ⟨.iaddr 1 (.tmp 16) (.tmp 17), none, (some 27), [16, 17]⟩,
  ⟨.store 1 (.tmp 27) (.tmp 25), none, none, [27, 25]⟩]
def m44r3 : List MOper := [⟨.mv (.tmp 1), none, (some 28), [1]⟩,
  ⟨.bin .add .other (.tmp 28) (.lit (.int .i64 1)), none, (some 29), [28]⟩,
  ⟨.mv (.tmp 2), none, (some 30), [2]⟩,
  ⟨.bin .sub .other (.tmp 30) (.lit (.int .i64 1)), none, (some 31), [30]⟩,
  ⟨.mv (.tmp 29), none, (some 12), [29]⟩,
  ⟨.mv (.tmp 31), none, (some 13), [31]⟩]
def m44r4 : List MOper := [⟨.mv (.tmp 12), none, (some 32), [12]⟩,
  ⟨.mv (.tmp 13), none, (some 33), [13]⟩,
  ⟨.bin .leq .other (.tmp 32) (.tmp 33), none, (some 34), [32, 33]⟩,
  ⟨.mv (.tmp 34), none, (some 35), [34]⟩,
  ⟨.mv (.tmp 4), (some (35, true)), (some 36), [4]⟩,
  ⟨.mv (.tmp 0), (some (35, true)), (some 37), [0]⟩,
  ⟨.mv (.tmp 12), (some (35, true)), (some 38), [12]⟩,
  ⟨.iaddr 1 (.tmp 37) (.tmp 38), (some (35, true)), (some 39), [37, 38]⟩,
  ⟨.load none (.tmp 39), (some (35, true)), (some 40), [39]⟩,
  ⟨.mv (.tmp 0), (some (35, true)), (some 41), [0]⟩,
  ⟨.mv (.tmp 1), (some (35, true)), (some 42), [1]⟩,
  ⟨.iaddr 1 (.tmp 41) (.tmp 42), (some (35, true)), (some 43), [41, 42]⟩,
  ⟨.load none (.tmp 43), (some (35, true)), (some 44), [43]⟩]
def m44r5 : List MOper := [⟨.callv (.tmp 36) [(.tmp 40), (.tmp 44)], (some (35, true)), (some 45), [36, 40, 44]⟩,
  ⟨.bin .lss .other (.tmp 45) (.lit (.int .i64 0)), (some (35, true)), (some 46), [45]⟩,
  ⟨.pick (.tmp 35) (.tmp 46) (.lit (.bool false)), none, (some 47), [35, 46]⟩]
def m44r6 : List MOper := [⟨.mv (.tmp 12), none, (some 48), [12]⟩,
  ⟨.bin .add .other (.tmp 48) (.lit (.int .i64 1)), none, (some 49), [48]⟩,
  ⟨.mv (.tmp 49), none, (some 12), [49]⟩]
def m44l7 : MCode := (.seq (.seq (.dregion m44r4 m44r5 [] [0, 1, 4, 12, 13, 47])
  (.cond (.tmp 47)
  .skip
  (.exit 0)))
  (.block 1 (.region m44r6 [0, 1, 4, 12, 13])))
def m44r8 : List MOper := [⟨.mv (.tmp 12), none, (some 50), [12]⟩,
  ⟨.mv (.tmp 13), none, (some 51), [13]⟩,
  ⟨.bin .leq .other (.tmp 50) (.tmp 51), none, (some 52), [50, 51]⟩,
  ⟨.mv (.tmp 52), none, (some 53), [52]⟩,
  ⟨.mv (.tmp 4), (some (53, true)), (some 54), [4]⟩,
  ⟨.mv (.tmp 0), (some (53, true)), (some 55), [0]⟩,
  ⟨.mv (.tmp 13), (some (53, true)), (some 56), [13]⟩,
  ⟨.iaddr 1 (.tmp 55) (.tmp 56), (some (53, true)), (some 57), [55, 56]⟩,
  ⟨.load none (.tmp 57), (some (53, true)), (some 58), [57]⟩,
  ⟨.mv (.tmp 0), (some (53, true)), (some 59), [0]⟩,
  ⟨.mv (.tmp 1), (some (53, true)), (some 60), [1]⟩,
  ⟨.iaddr 1 (.tmp 59) (.tmp 60), (some (53, true)), (some 61), [59, 60]⟩,
  ⟨.load none (.tmp 61), (some (53, true)), (some 62), [61]⟩]
def m44r9 : List MOper := [⟨.callv (.tmp 54) [(.tmp 58), (.tmp 62)], (some (53, true)), (some 63), [54, 58, 62]⟩,
  ⟨.bin .lss .other (.tmp 63) (.lit (.int .i64 0)), (some (53, true)), (some 64), [63]⟩,
  ⟨.un .not (.tmp 64), (some (53, true)), (some 65), [64]⟩,
  ⟨.pick (.tmp 53) (.tmp 65) (.lit (.bool false)), none, (some 66), [53, 65]⟩]
def m44r10 : List MOper := [⟨.mv (.tmp 13), none, (some 67), [13]⟩,
  ⟨.bin .sub .other (.tmp 67) (.lit (.int .i64 1)), none, (some 68), [67]⟩,
  ⟨.mv (.tmp 68), none, (some 13), [68]⟩]
def m44l11 : MCode := (.seq (.seq (.dregion m44r8 m44r9 [] [0, 1, 4, 12, 13, 66])
  (.cond (.tmp 66)
  .skip
  (.exit 2)))
  (.block 3 (.region m44r10 [0, 1, 4, 12, 13])))
def m44r12 : List MOper := [⟨.mv (.tmp 12), none, (some 69), [12]⟩,
  ⟨.mv (.tmp 13), none, (some 70), [13]⟩,
  ⟨.bin .gtr .other (.tmp 69) (.tmp 70), none, (some 71), [69, 70]⟩]
def m44r13 : List MOper := [⟨.mv (.tmp 0), none, (some 72), [0]⟩,
  ⟨.mv (.tmp 13), none, (some 73), [13]⟩,
  ⟨.mv (.tmp 0), none, (some 74), [0]⟩,
  ⟨.mv (.tmp 1), none, (some 75), [1]⟩,
  ⟨.mv (.tmp 0), none, (some 76), [0]⟩,
  ⟨.mv (.tmp 1), none, (some 77), [1]⟩,
  ⟨.iaddr 1 (.tmp 76) (.tmp 77), none, (some 78), [76, 77]⟩,
  ⟨.load none (.tmp 78), none, (some 79), [78]⟩,
  ⟨.mv (.tmp 0), none, (some 80), [0]⟩,
  ⟨.mv (.tmp 13), none, (some 81), [13]⟩,
  ⟨.iaddr 1 (.tmp 80) (.tmp 81), none, (some 82), [80, 81]⟩,
  ⟨.load none (.tmp 82), none, (some 83), [82]⟩]
def m44r14 : List MOper := [⟨.iaddr 1 (.tmp 72) (.tmp 73), none, (some 84), [72, 73]⟩,
  ⟨.store 1 (.tmp 84) (.tmp 79), none, none, [84, 79]⟩,
  ⟨.iaddr 1 (.tmp 74) (.tmp 75), none, (some 85), [74, 75]⟩,
  ⟨.store 1 (.tmp 85) (.tmp 83), none, none, [85, 83]⟩]
def m44r15 : List MOper := [⟨.mv (.tmp 13), none, (some 86), [13]⟩,
  ⟨.mv (.tmp 86), none, (some 10), [86]⟩,
  ⟨.mv (.lit (.bool true)), none, (some 11), []⟩]
def m44r16 : List MOper := [⟨.mv (.tmp 0), none, (some 87), [0]⟩,
  ⟨.mv (.tmp 12), none, (some 88), [12]⟩,
  ⟨.mv (.tmp 0), none, (some 89), [0]⟩,
  ⟨.mv (.tmp 13), none, (some 90), [13]⟩,
  ⟨.mv (.tmp 0), none, (some 91), [0]⟩,
  ⟨.mv (.tmp 13), none, (some 92), [13]⟩,
  ⟨.iaddr 1 (.tmp 91) (.tmp 92), none, (some 93), [91, 92]⟩,
  ⟨.load none (.tmp 93), none, (some 94), [93]⟩,
  ⟨.mv (.tmp 0), none, (some 95), [0]⟩,
  ⟨.mv (.tmp 12), none, (some 96), [12]⟩,
  ⟨.iaddr 1 (.tmp 95) (.tmp 96), none, (some 97), [95, 96]⟩,
  ⟨.load none (.tmp 97), none, (some 98), [97]⟩]
def m44r17 : List MOper := [⟨.iaddr 1 (.tmp 87) (.tmp 88), none, (some 99), [87, 88]⟩,
  ⟨.store 1 (.tmp 99) (.tmp 94), none, none, [99, 94]⟩,
  ⟨.iaddr 1 (.tmp 89) (.tmp 90), none, (some 100), [89, 90]⟩,
  ⟨.store 1 (.tmp 100) (.tmp 98), none, none, [100, 98]⟩]
def m44r18 : List MOper := [⟨.mv (.tmp 12), none, (some 101), [12]⟩,
  ⟨.bin .add .other (.tmp 101) (.lit (.int .i64 1)), none, (some 102), [101]⟩,
  ⟨.mv (.tmp 102), none, (some 12), [102]⟩]
def m44r19 : List MOper := [⟨.mv (.tmp 13), none, (some 103), [13]⟩,
  ⟨.bin .sub .other (.tmp 103) (.lit (.int .i64 1)), none, (some 104), [103]⟩,
  ⟨.mv (.tmp 104), none, (some 13), [104]⟩]
def m44r20 : List MOper := [⟨.mv (.tmp 12), none, (some 105), [12]⟩,
  ⟨.mv (.tmp 13), none, (some 106), [13]⟩,
  ⟨.bin .leq .other (.tmp 105) (.tmp 106), none, (some 107), [105, 106]⟩,
  ⟨.mv (.tmp 107), none, (some 108), [107]⟩,
  ⟨.mv (.tmp 4), (some (108, true)), (some 109), [4]⟩,
  ⟨.mv (.tmp 0), (some (108, true)), (some 110), [0]⟩,
  ⟨.mv (.tmp 12), (some (108, true)), (some 111), [12]⟩,
  ⟨.iaddr 1 (.tmp 110) (.tmp 111), (some (108, true)), (some 112), [110, 111]⟩,
  ⟨.load none (.tmp 112), (some (108, true)), (some 113), [112]⟩,
  ⟨.mv (.tmp 0), (some (108, true)), (some 114), [0]⟩,
  ⟨.mv (.tmp 1), (some (108, true)), (some 115), [1]⟩,
  ⟨.iaddr 1 (.tmp 114) (.tmp 115), (some (108, true)), (some 116), [114, 115]⟩,
  ⟨.load none (.tmp 116), (some (108, true)), (some 117), [116]⟩]
def m44r21 : List MOper := [⟨.callv (.tmp 109) [(.tmp 113), (.tmp 117)], (some (108, true)), (some 118), [109, 113, 117]⟩,
  ⟨.bin .lss .other (.tmp 118) (.lit (.int .i64 0)), (some (108, true)), (some 119), [118]⟩,
  ⟨.pick (.tmp 108) (.tmp 119) (.lit (.bool false)), none, (some 120), [108, 119]⟩]
def m44r22 : List MOper := [⟨.mv (.tmp 12), none, (some 121), [12]⟩,
  ⟨.bin .add .other (.tmp 121) (.lit (.int .i64 1)), none, (some 122), [121]⟩,
  ⟨.mv (.tmp 122), none, (some 12), [122]⟩]
def m44l23 : MCode := (.seq (.seq (.dregion m44r20 m44r21 [] [0, 1, 4, 12, 13, 120])
  (.cond (.tmp 120)
  .skip
  (.exit 6)))
  (.block 7 (.region m44r22 [0, 1, 4, 12, 13])))
def m44r24 : List MOper := [⟨.mv (.tmp 12), none, (some 123), [12]⟩,
  ⟨.mv (.tmp 13), none, (some 124), [13]⟩,
  ⟨.bin .leq .other (.tmp 123) (.tmp 124), none, (some 125), [123, 124]⟩,
  ⟨.mv (.tmp 125), none, (some 126), [125]⟩,
  ⟨.mv (.tmp 4), (some (126, true)), (some 127), [4]⟩,
  ⟨.mv (.tmp 0), (some (126, true)), (some 128), [0]⟩,
  ⟨.mv (.tmp 13), (some (126, true)), (some 129), [13]⟩,
  ⟨.iaddr 1 (.tmp 128) (.tmp 129), (some (126, true)), (some 130), [128, 129]⟩,
  ⟨.load none (.tmp 130), (some (126, true)), (some 131), [130]⟩,
  ⟨.mv (.tmp 0), (some (126, true)), (some 132), [0]⟩,
  ⟨.mv (.tmp 1), (some (126, true)), (some 133), [1]⟩,
  ⟨.iaddr 1 (.tmp 132) (.tmp 133), (some (126, true)), (some 134), [132, 133]⟩,
  ⟨.load none (.tmp 134), (some (126, true)), (some 135), [134]⟩]
def m44r25 : List MOper := [⟨.callv (.tmp 127) [(.tmp 131), (.tmp 135)], (some (126, true)), (some 136), [127, 131, 135]⟩,
  ⟨.bin .lss .other (.tmp 136) (.lit (.int .i64 0)), (some (126, true)), (some 137), [136]⟩,
  ⟨.un .not (.tmp 137), (some (126, true)), (some 138), [137]⟩,
  ⟨.pick (.tmp 126) (.tmp 138) (.lit (.bool false)), none, (some 139), [126, 138]⟩]
def m44r26 : List MOper := [⟨.mv (.tmp 13), none, (some 140), [13]⟩,
  ⟨.bin .sub .other (.tmp 140) (.lit (.int .i64 1)), none, (some 141), [140]⟩,
  ⟨.mv (.tmp 141), none, (some 13), [141]⟩]
def m44l27 : MCode := (.seq (.seq (.dregion m44r24 m44r25 [] [0, 1, 4, 12, 13, 139])
  (.cond (.tmp 139)
  .skip
  (.exit 8)))
  (.block 9 (.region m44r26 [0, 1, 4, 12, 13])))
def m44r28 : List MOper := [⟨.mv (.tmp 12), none, (some 142), [12]⟩,
  ⟨.mv (.tmp 13), none, (some 143), [13]⟩,
  ⟨.bin .gtr .other (.tmp 142) (.tmp 143), none, (some 144), [142, 143]⟩]
def m44r29 : List MOper := [⟨.mv (.tmp 0), none, (some 145), [0]⟩,
  ⟨.mv (.tmp 12), none, (some 146), [12]⟩,
  ⟨.mv (.tmp 0), none, (some 147), [0]⟩,
  ⟨.mv (.tmp 13), none, (some 148), [13]⟩,
  ⟨.mv (.tmp 0), none, (some 149), [0]⟩,
  ⟨.mv (.tmp 13), none, (some 150), [13]⟩,
  ⟨.iaddr 1 (.tmp 149) (.tmp 150), none, (some 151), [149, 150]⟩,
  ⟨.load none (.tmp 151), none, (some 152), [151]⟩,
  ⟨.mv (.tmp 0), none, (some 153), [0]⟩,
  ⟨.mv (.tmp 12), none, (some 154), [12]⟩,
  ⟨.iaddr 1 (.tmp 153) (.tmp 154), none, (some 155), [153, 154]⟩,
  ⟨.load none (.tmp 155), none, (some 156), [155]⟩]
def m44r30 : List MOper := [⟨.iaddr 1 (.tmp 145) (.tmp 146), none, (some 157), [145, 146]⟩,
  ⟨.store 1 (.tmp 157) (.tmp 152), none, none, [157, 152]⟩,
  ⟨.iaddr 1 (.tmp 147) (.tmp 148), none, (some 158), [147, 148]⟩,
  ⟨.store 1 (.tmp 158) (.tmp 156), none, none, [158, 156]⟩]
def m44r31 : List MOper := [⟨.mv (.tmp 12), none, (some 159), [12]⟩,
  ⟨.bin .add .other (.tmp 159) (.lit (.int .i64 1)), none, (some 160), [159]⟩,
  ⟨.mv (.tmp 160), none, (some 12), [160]⟩]
def m44r32 : List MOper := [⟨.mv (.tmp 13), none, (some 161), [13]⟩,
  ⟨.bin .sub .other (.tmp 161) (.lit (.int .i64 1)), none, (some 162), [161]⟩,
  ⟨.mv (.tmp 162), none, (some 13), [162]⟩]
def m44l33 : MCode := (.block 5 (.seq (.block 6 (.loop [0, 1, 4, 12, 13] m44l23))
  (.seq (.block 8 (.loop [0, 1, 4, 12, 13] m44l27))
  (.seq (.seq (.region m44r28 [0, 1, 4, 12, 13, 144])
  (.cond (.tmp 144)
  (.exit 4)
  .skip))
  (.seq (.dregion m44r29 m44r30 [] [0, 1, 4, 12, 13])
  (.seq (.region m44r31 [0, 1, 4, 12, 13])
  (.region m44r32 [0, 1, 4, 12, 13])))))))
def m44r34 : List MOper := [⟨.mv (.tmp 0), none, (some 163), [0]⟩,
  ⟨.mv (.tmp 13), none, (some 164), [13]⟩,
  ⟨.mv (.tmp 0), none, (some 165), [0]⟩,
  ⟨.mv (.tmp 1), none, (some 166), [1]⟩,
  ⟨.mv (.tmp 0), none, (some 167), [0]⟩,
  ⟨.mv (.tmp 1), none, (some 168), [1]⟩,
  ⟨.iaddr 1 (.tmp 167) (.tmp 168), none, (some 169), [167, 168]⟩,
  ⟨.load none (.tmp 169), none, (some 170), [169]⟩,
  ⟨.mv (.tmp 0), none, (some 171), [0]⟩,
  ⟨.mv (.tmp 13), none, (some 172), [13]⟩,
  ⟨.iaddr 1 (.tmp 171) (.tmp 172), none, (some 173), [171, 172]⟩,
  ⟨.load none (.tmp 173), none, (some 174), [173]⟩]
def m44r35 : List MOper := [⟨.iaddr 1 (.tmp 163) (.tmp 164), none, (some 175), [163, 164]⟩,
  ⟨.store 1 (.tmp 175) (.tmp 170), none, none, [175, 170]⟩,
  ⟨.iaddr 1 (.tmp 165) (.tmp 166), none, (some 176), [165, 166]⟩,
  ⟨.store 1 (.tmp 176) (.tmp 174), none, none, [176, 174]⟩]
def m44r36 : List MOper := [⟨.mv (.tmp 13), none, (some 177), [13]⟩,
  ⟨.mv (.tmp 177), none, (some 10), [177]⟩,
  ⟨.mv (.lit (.bool false)), none, (some 11), []⟩]
def m44 : MFunc := ⟨178, [.tmp 10, .tmp 11],
  (.seq (.region m44r0 [0, 1, 2, 3, 4])
  (.seq (.dregion m44r1 m44r2 [] [0, 1, 2, 4])
  (.seq (.region m44r3 [0, 1, 4, 12, 13])
  (.seq (.block 0 (.loop [0, 1, 4, 12, 13] m44l7))
  (.seq (.block 2 (.loop [0, 1, 4, 12, 13] m44l11))
  (.seq (.seq (.region m44r12 [0, 1, 4, 12, 13, 71])
  (.cond (.tmp 71)
  (.seq (.dregion m44r13 m44r14 [] [13])
  (.seq (.region m44r15 [10, 11])
  .ret))
  .skip))
  (.seq (.dregion m44r16 m44r17 [] [0, 1, 4, 12, 13])
  (.seq (.region m44r18 [0, 1, 4, 12, 13])
  (.seq (.region m44r19 [0, 1, 4, 12, 13])
  (.seq (.block 4 (.loop [0, 1, 4, 12, 13] m44l33))
  (.seq (.dregion m44r34 m44r35 [] [13])
  (.seq (.region m44r36 [10, 11])
  .ret))))))))))))⟩
def h44 : List RH := [⟨[0, 1, 2, 3, 4], 0, false, []⟩, ⟨[0, 1, 2, 4], 12, false, []⟩, ⟨[0, 1, 4, 12, 13], 0, false, []⟩, ⟨[0, 1, 4, 12, 13], 0, false, []⟩, ⟨[0, 1, 4, 12, 13, 47], 13, false, []⟩, ⟨[0, 1, 4, 12, 13], 0, false, []⟩, ⟨[0, 1, 4, 12, 13], 0, false, []⟩, ⟨[0, 1, 4, 12, 13, 66], 13, false, []⟩, ⟨[0, 1, 4, 12, 13], 0, false, []⟩, ⟨[0, 1, 4, 12, 13, 71], 0, false, []⟩, ⟨[13], 12, false, []⟩, ⟨[10, 11], 0, false, []⟩, ⟨[0, 1, 4, 12, 13], 12, false, []⟩, ⟨[0, 1, 4, 12, 13], 0, false, []⟩, ⟨[0, 1, 4, 12, 13], 0, false, []⟩, ⟨[0, 1, 4, 12, 13], 0, false, []⟩, ⟨[0, 1, 4, 12, 13], 0, false, []⟩, ⟨[0, 1, 4, 12, 13, 120], 13, false, []⟩, ⟨[0, 1, 4, 12, 13], 0, false, []⟩, ⟨[0, 1, 4, 12, 13], 0, false, []⟩, ⟨[0, 1, 4, 12, 13, 139], 13, false, []⟩, ⟨[0, 1, 4, 12, 13], 0, false, []⟩, ⟨[0, 1, 4, 12, 13, 144], 0, false, []⟩, ⟨[0, 1, 4, 12, 13], 12, false, []⟩, ⟨[0, 1, 4, 12, 13], 0, false, []⟩, ⟨[0, 1, 4, 12, 13], 0, false, []⟩, ⟨[13], 12, false, []⟩, ⟨[10, 11], 0, false, []⟩]
theorem m44_ok : cmpFn Try.prog 44 h44 = some m44 := by kernel_rfl

/- math/bits.Len32 -/
def m45r0 : List MOper := [⟨.mv (.lit (.int .i64 0)), none, (some 2), []⟩]
def m45r1 : List MOper := [⟨.mv (.tmp 0), none, (some 3), [0]⟩,
  ⟨.bin .geq .other (.tmp 3) (.lit (.int .u32 65536)), none, (some 4), [3]⟩]
def m45r2 : List MOper := [⟨.mv (.tmp 0), none, (some 5), [0]⟩,
  ⟨.bin .shr .other (.tmp 5) (.lit (.int .u64 16)), none, (some 6), [5]⟩,
  ⟨.mv (.tmp 6), none, (some 0), [6]⟩]
def m45r3 : List MOper := [⟨.mv (.lit (.int .i64 16)), none, (some 2), []⟩]
def m45r4 : List MOper := [⟨.mv (.tmp 0), none, (some 7), [0]⟩,
  ⟨.bin .geq .other (.tmp 7) (.lit (.int .u32 256)), none, (some 8), [7]⟩]
def m45r5 : List MOper := [⟨.mv (.tmp 0), none, (some 9), [0]⟩,
  ⟨.bin .shr .other (.tmp 9) (.lit (.int .u64 8)), none, (some 10), [9]⟩,
  ⟨.mv (.tmp 10), none, (some 0), [10]⟩]
def m45r6 : List MOper := [⟨.mv (.tmp 2), none, (some 11), [2]⟩,
  ⟨.bin .add .other (.tmp 11) (.lit (.int .i64 8)), none, (some 12), [11]⟩,
  ⟨.mv (.tmp 12), none, (some 2), [12]⟩]
def m45r7 : List MOper := [⟨.mv (.tmp 2), none, (some 13), [2]⟩,
  ⟨.mv (.tmp 0), none, (some 14), [0]⟩,
  ⟨.conv .u8 (.tmp 14), none, (some 15), [14]⟩,
  ⟨.sidx (.lit (.str [0, 1, 2, 2, 3, 3, 3, 3, 4, 4, 4, 4, 4, 4, 4, 4, 5, 5, 5, 5, 5, 5, 5, 5, 5, 5, 5, 5, 5, 5, 5, 5, 6, 6, 6, 6, 6, 6, 6, 6, 6, 6, 6, 6, 6, 6, 6, 6, 6, 6, 6, 6, 6, 6, 6, 6, 6, 6, 6, 6, 6, 6, 6, 6, 7, 7, 7, 7, 7, 7, 7, 7, 7, 7, 7, 7, 7, 7, 7, 7, 7, 7, 7, 7, 7, 7, 7, 7, 7, 7, 7, 7, 7, 7, 7, 7, 7, 7, 7, 7, 7, 7, 7, 7, 7, 7, 7, 7, 7, 7, 7, 7, 7, 7, 7, 7, 7, 7, 7, 7, 7, 7, 7, 7, 7, 7, 7, 7, 8, 8, 8, 8, 8, 8, 8, 8, 8, 8, 8, 8, 8, 8, 8, 8, 8, 8, 8, 8, 8, 8, 8, 8, 8, 8, 8, 8, 8, 8, 8, 8, 8, 8, 8, 8, 8, 8, 8, 8, 8, 8, 8, 8, 8, 8, 8, 8, 8, 8, 8, 8, 8, 8, 8, 8, 8, 8, 8, 8, 8, 8, 8, 8, 8, 8, 8, 8, 8, 8, 8, 8, 8, 8, 8, 8, 8, 8, 8, 8, 8, 8, 8, 8, 8, 8, 8, 8, 8, 8, 8, 8, 8, 8, 8, 8, 8, 8, 8, 8, 8, 8, 8, 8, 8, 8, 8, 8, 8, 8, 8, 8, 8, 8, 8, 8, 8, 8, 8, 8, 8, 8, 8, 8, 8, 8, 8, 8])) (.tmp 15), none, (some 16), [15]⟩,
  ⟨.conv .i64 (.tmp 16), none, (some 17), [16]⟩,
  ⟨.bin .add .other (.tmp 13) (.tmp 17), none, (some 18), [13, 17]⟩,
  ⟨.mv (.tmp 18), none, (some 2), [18]⟩]
def m45 : MFunc := ⟨19, [.tmp 2],
  (.seq (.region m45r0 [0, 2])
  (.seq (.seq (.region m45r1 [0, 2, 4])
  (.cond (.tmp 4)
  (.seq (.region m45r2 [0])
  (.region m45r3 [0, 2]))
  .skip))
  (.seq (.seq (.region m45r4 [0, 2, 8])
  (.cond (.tmp 8)
  (.seq (.region m45r5 [0, 2])
  (.region m45r6 [0, 2]))
  .skip))
  (.seq (.region m45r7 [2])
  .ret))))⟩
def h45 : List RH := [⟨[0, 2], 0, false, []⟩, ⟨[0, 2, 4], 0, false, []⟩, ⟨[0], 0, false, []⟩, ⟨[0, 2], 0, false, []⟩, ⟨[0, 2, 8], 0, false, []⟩, ⟨[0, 2], 0, false, []⟩, ⟨[0, 2], 0, false, []⟩, ⟨[2], 0, false, []⟩]
theorem m45_ok : cmpFn Try.prog 45 h45 = some m45 := by kernel_rfl

/- math/bits.Len64 -/
def m46r0 : List MOper := [⟨.mv (.lit (.int .i64 0)), none, (some 2), []⟩]
def m46r1 : List MOper := [⟨.mv (.tmp 0), none, (some 3), [0]⟩,
  ⟨.bin .geq .other (.tmp 3) (.lit (.int .u64 4294967296)), none, (some 4), [3]⟩]
def m46r2 : List MOper := [⟨.mv (.tmp 0), none, (some 5), [0]⟩,
  ⟨.bin .shr .other (.tmp 5) (.lit (.int .u64 32)), none, (some 6), [5]⟩,
  ⟨.mv (.tmp 6), none, (some 0), [6]⟩]
def m46r3 : List MOper := [⟨.mv (.lit (.int .i64 32)), none, (some 2), []⟩]
def m46r4 : List MOper := [⟨.mv (.tmp 0), none, (some 7), [0]⟩,
  ⟨.bin .geq .other (.tmp 7) (.lit (.int .u64 65536)), none, (some 8), [7]⟩]
def m46r5 : List MOper := [⟨.mv (.tmp 0), none, (some 9), [0]⟩,
  ⟨.bin .shr .other (.tmp 9) (.lit (.int .u64 16)), none, (some 10), [9]⟩,
  ⟨.mv (.tmp 10), none, (some 0), [10]⟩]
def m46r6 : List MOper := [⟨.mv (.tmp 2), none, (some 11), [2]⟩,
  ⟨.bin .add .other (.tmp 11) (.lit (.int .i64 16)), none, (some 12), [11]⟩,
  ⟨.mv (.tmp 12), none, (some 2), [12]⟩]
def m46r7 : List MOper := [⟨.mv (.tmp 0), none, (some 13), [0]⟩,
  ⟨.bin .geq .other (.tmp 13) (.lit (.int .u64 256)), none, (some 14), [13]⟩]
def m46r8 : List MOper := [⟨.mv (.tmp 0), none, (some 15), [0]⟩,
  ⟨.bin .shr .other (.tmp 15) (.lit (.int .u64 8)), none, (some 16), [15]⟩,
  ⟨.mv (.tmp 16), none, (some 0), [16]⟩]
def m46r9 : List MOper := [⟨.mv (.tmp 2), none, (some 17), [2]⟩,
  ⟨.bin .add .other (.tmp 17) (.lit (.int .i64 8)), none, (some 18), [17]⟩,
  ⟨.mv (.tmp 18), none, (some 2), [18]⟩]
def m46r10 : List MOper := [⟨.mv (.tmp 2), none, (some 19), [2]⟩,
  ⟨.mv (.tmp 0), none, (some 20), [0]⟩,
  ⟨.conv .u8 (.tmp 20), none, (some 21), [20]⟩,
  ⟨.sidx (.lit (.str [0, 1, 2, 2, 3, 3, 3, 3, 4, 4, 4, 4, 4, 4, 4, 4, 5, 5, 5, 5, 5, 5, 5, 5, 5, 5, 5, 5, 5, 5, 5, 5, 6, 6, 6, 6, 6, 6, 6, 6, 6, 6, 6, 6, 6, 6, 6, 6, 6, 6, 6, 6, 6, 6, 6, 6, 6, 6, 6, 6, 6, 6, 6, 6, 7, 7, 7, 7, 7, 7, 7, 7, 7, 7, 7, 7, 7, 7, 7, 7, 7, 7, 7, 7, 7, 7, 7, 7, 7, 7, 7, 7, 7, 7, 7, 7, 7, 7, 7, 7, 7, 7, 7, 7, 7, 7, 7, 7, 7, 7, 7, 7, 7, 7, 7, 7, 7, 7, 7, 7, 7, 7, 7, 7, 7, 7, 7, 7, 8, 8, 8, 8, 8, 8, 8, 8, 8, 8, 8, 8, 8, 8, 8, 8, 8, 8, 8, 8, 8, 8, 8, 8, 8, 8, 8, 8, 8, 8, 8, 8, 8, 8, 8, 8, 8, 8, 8, 8, 8, 8, 8, 8, 8, 8, 8, 8, 8, 8, 8, 8, 8, 8, 8, 8, 8, 8, 8, 8, 8, 8, 8, 8, 8, 8, 8, 8, 8, 8, 8, 8, 8, 8, 8, 8, 8, 8, 8, 8, 8, 8, 8, 8, 8, 8, 8, 8, 8, 8, 8, 8, 8, 8, 8, 8, 8, 8, 8, 8, 8, 8, 8, 8, 8, 8, 8, 8, 8, 8, 8, 8, 8, 8, 8, 8, 8, 8, 8, 8, 8, 8, 8, 8, 8, 8, 8, 8])) (.tmp 21), none, (some 22), [21]⟩,
  ⟨.conv .i64 (.tmp 22), none, (some 23), [22]⟩,
  ⟨.bin .add .other (.tmp 19) (.tmp 23), none, (some 24), [19, 23]⟩,
  ⟨.mv (.tmp 24), none, (some 2), [24]⟩]
def m46 : MFunc := ⟨25, [.tmp 2],
  (.seq (.region m46r0 [0, 2])
  (.seq (.seq (.region m46r1 [0, 2, 4])
  (.cond (.tmp 4)
  (.seq (.region m46r2 [0])
  (.region m46r3 [0, 2]))
  .skip))
  (.seq (.seq (.region m46r4 [0, 2, 8])
  (.cond (.tmp 8)
  (.seq (.region m46r5 [0, 2])
  (.region m46r6 [0, 2]))
  .skip))
  (.seq (.seq (.region m46r7 [0, 2, 14])
  (.cond (.tmp 14)
  (.seq (.region m46r8 [0, 2])
  (.region m46r9 [0, 2]))
  .skip))
  (.seq (.region m46r10 [2])
  .ret)))))⟩
def h46 : List RH := [⟨[0, 2], 0, false, []⟩, ⟨[0, 2, 4], 0, false, []⟩, ⟨[0], 0, false, []⟩, ⟨[0, 2], 0, false, []⟩, ⟨[0, 2, 8], 0, false, []⟩, ⟨[0, 2], 0, false, []⟩, ⟨[0, 2], 0, false, []⟩, ⟨[0, 2, 14], 0, false, []⟩, ⟨[0, 2], 0, false, []⟩, ⟨[0, 2], 0, false, []⟩, ⟨[2], 0, false, []⟩]
theorem m46_ok : cmpFn Try.prog 46 h46 = some m46 := by kernel_rfl

/- dialtone/dialtoneref33.answered -/
def m48r0 : List MOper := [⟨.box 10 (.tmp 0), none, (some 3), [0]⟩,
  ⟨.zbox [(.str []), (.int .u8 0), (.bool false), (.bool false), (.int .i64 0), (.int .i64 0), (.int .i64 0), (.int .i64 0), (.int .i64 0), (.int .i64 0)], none, (some 6), []⟩]
def m48r1 : List MOper := [⟨.mv (.tmp 1), none, (some 7), [1]⟩,
  ⟨.mv (.tmp 2), none, (some 8), [2]⟩,
  ⟨.faddr 1 (.tmp 3), none, (some 9), [3]⟩,
  ⟨.store 1 (.tmp 9) (.tmp 7), none, none, [9, 7]⟩,
  ⟨.faddr 7 (.tmp 3), none, (some 10), [3]⟩,
  ⟨.store 1 (.tmp 10) (.tmp 8), none, none, [10, 8]⟩]
def m48r2 : List MOper := [⟨.load (some 10) (.tmp 3), none, (some 11), [3]⟩,
  ⟨.store 10 (.tmp 6) (.tmp 11), none, none, [6, 11]⟩]
def m48 : MFunc := ⟨12, [.cell 6 (some 10)],
  (.seq (.region m48r0 [1, 2, 3, 6])
  (.seq (.region m48r1 [3, 6])
  (.seq (.region m48r2 [6])
  .ret)))⟩
def h48 : List RH := [⟨[1, 2, 3, 6], 0, false, []⟩, ⟨[3, 6], 0, false, []⟩, ⟨[6], 0, false, []⟩]
theorem m48_ok : cmpFn Try.prog 48 h48 = some m48 := by kernel_rfl

/- dialtone/dialtoneref33.ended -/
def m49r0 : List MOper := [⟨.box 10 (.tmp 0), none, (some 3), [0]⟩,
  ⟨.zbox [(.str []), (.int .u8 0), (.bool false), (.bool false), (.int .i64 0), (.int .i64 0), (.int .i64 0), (.int .i64 0), (.int .i64 0), (.int .i64 0)], none, (some 6), []⟩]
def m49r1 : List MOper := [⟨.mv (.tmp 1), none, (some 7), [1]⟩,
  ⟨.mv (.tmp 2), none, (some 8), [2]⟩,
  ⟨.faddr 1 (.tmp 3), none, (some 9), [3]⟩,
  ⟨.store 1 (.tmp 9) (.lit (.int .u8 8)), none, none, [9]⟩,
  ⟨.faddr 4 (.tmp 3), none, (some 10), [3]⟩,
  ⟨.store 1 (.tmp 10) (.tmp 7), none, none, [10, 7]⟩,
  ⟨.faddr 8 (.tmp 3), none, (some 11), [3]⟩,
  ⟨.store 1 (.tmp 11) (.tmp 8), none, none, [11, 8]⟩]
def m49r2 : List MOper := [⟨.load (some 10) (.tmp 3), none, (some 12), [3]⟩,
  ⟨.store 10 (.tmp 6) (.tmp 12), none, none, [6, 12]⟩]
def m49 : MFunc := ⟨13, [.cell 6 (some 10)],
  (.seq (.region m49r0 [1, 2, 3, 6])
  (.seq (.region m49r1 [3, 6])
  (.seq (.region m49r2 [6])
  .ret)))⟩
def h49 : List RH := [⟨[1, 2, 3, 6], 0, false, []⟩, ⟨[3, 6], 0, false, []⟩, ⟨[6], 0, false, []⟩]
theorem m49_ok : cmpFn Try.prog 49 h49 = some m49 := by kernel_rfl

/- slices.Index[[]dialtone/api.CallState,dialtone/api.CallState] -/
def m50r0 : List MOper := [⟨.mv (.lit (.int .i64 0)), none, (some 4), []⟩]
def m50r1 : List MOper := [⟨.mv (.tmp 0), none, (some 6), [0]⟩,
  ⟨.len 1 (.tmp 6), none, (some 7), [6]⟩,
  ⟨.mv (.lit (.int .i64 0)), none, (some 8), []⟩]
def m50r2 : List MOper := [⟨.bin .lss .other (.tmp 8) (.tmp 7), none, (some 9), [8, 7]⟩]
def m50r3 : List MOper := [⟨.mv (.tmp 8), none, (some 10), [8]⟩,
  ⟨.mv (.tmp 10), none, (some 5), [10]⟩]
def m50r4 : List MOper := [⟨.mv (.tmp 1), none, (some 11), [1]⟩,
  ⟨.mv (.tmp 0), none, (some 12), [0]⟩,
  ⟨.mv (.tmp 5), none, (some 13), [5]⟩,
  ⟨.iaddr 1 (.tmp 12) (.tmp 13), none, (some 14), [12, 13]⟩,
  ⟨.load none (.tmp 14), none, (some 15), [14]⟩,
  ⟨.bin .eql .other (.tmp 11) (.tmp 15), none, (some 16), [11, 15]⟩]
def m50r5 : List MOper := [⟨.mv (.tmp 5), none, (some 17), [5]⟩,
  ⟨.mv (.tmp 17), none, (some 4), [17]⟩]
def m50r6 : List MOper := [⟨.bin .add .other (.tmp 8) (.lit (.int .i64 1)), none, (some 18), [8]⟩,
  ⟨.mv (.tmp 18), none, (some 8), [18]⟩]
def m50l7 : MCode := (.seq (.region m50r2 [0, 1, 7, 8, 9])
  (.seq (.cond (.tmp 9)
  .skip
  (.exit 0))
  (.seq (.block 1 (.seq (.region m50r3 [0, 1, 5, 7, 8])
  (.seq (.region m50r4 [0, 1, 5, 7, 8, 16])
  (.cond (.tmp 16)
  (.seq (.region m50r5 [4])
  .ret)
  .skip))))
  (.region m50r6 [0, 1, 7, 8]))))
def m50r8 : List MOper := [⟨.mv (.lit (.int .i64 (-1))), none, (some 4), []⟩]
def m50 : MFunc := ⟨19, [.tmp 4],
  (.seq (.region m50r0 [0, 1])
  (.seq (.seq (.region m50r1 [0, 1, 7, 8])
  (.block 0 (.loop [0, 1, 7, 8] m50l7)))
  (.seq (.region m50r8 [4])
  .ret)))⟩
def h50 : List RH := [⟨[0, 1], 0, false, []⟩, ⟨[0, 1, 7, 8], 0, false, []⟩, ⟨[0, 1, 7, 8], 0, false, []⟩, ⟨[0, 1, 7, 8, 9], 0, false, []⟩, ⟨[0, 1, 5, 7, 8], 0, false, []⟩, ⟨[0, 1, 5, 7, 8, 16], 0, false, []⟩, ⟨[4], 0, false, []⟩, ⟨[0, 1, 7, 8], 0, false, []⟩, ⟨[4], 0, false, []⟩]
theorem m50_ok : cmpFn Try.prog 50 h50 = some m50 := by kernel_rfl

/- slices.siftDownCmpFunc[string] -/
def m51r0 : List MOper := [⟨.mv (.tmp 1), none, (some 12), [1]⟩,
  ⟨.mv (.tmp 12), none, (some 10), [12]⟩]
def m51r1 : List MOper := [⟨.mv (.tmp 10), none, (some 13), [10]⟩,
  ⟨.bin .mul .other (.lit (.int .i64 2)) (.tmp 13), none, (some 14), [13]⟩,
  ⟨.bin .add .other (.tmp 14) (.lit (.int .i64 1)), none, (some 15), [14]⟩,
  ⟨.mv (.tmp 15), none, (some 11), [15]⟩]
def m51r2 : List MOper := [⟨.mv (.tmp 11), none, (some 16), [11]⟩,
  ⟨.mv (.tmp 2), none, (some 17), [2]⟩,
  ⟨.bin .geq .other (.tmp 16) (.tmp 17), none, (some 18), [16, 17]⟩]
def m51r3 : List MOper := [⟨.mv (.tmp 11), none, (some 19), [11]⟩,
  ⟨.bin .add .other (.tmp 19) (.lit (.int .i64 1)), none, (some 20), [19]⟩,
  ⟨.mv (.tmp 2), none, (some 21), [2]⟩,
  ⟨.bin .lss .other (.tmp 20) (.tmp 21), none, (some 22), [20, 21]⟩,
  ⟨.mv (.tmp 22), none, (some 23), [22]⟩,
  ⟨.mv (.tmp 4), (some (23, true)), (some 24), [4]⟩,
  ⟨.mv (.tmp 0), (some (23, true)), (some 25), [0]⟩,
  ⟨.mv (.tmp 3), (some (23, true)), (some 26), [3]⟩,
  ⟨.mv (.tmp 11), (some (23, true)), (some 27), [11]⟩,
  ⟨.bin .add .other (.tmp 26) (.tmp 27), (some (23, true)), (some 28), [26, 27]⟩,
  ⟨.iaddr 1 (.tmp 25) (.tmp 28), (some (23, true)), (some 29), [25, 28]⟩,
  ⟨.load none (.tmp 29), (some (23, true)), (some 30), [29]⟩,
  ⟨.mv (.tmp 0), (some (23, true)), (some 31), [0]⟩,
  ⟨.mv (.tmp 3), (some (23, true)), (some 32), [3]⟩,
  ⟨.mv (.tmp 11), (some (23, true)), (some 33), [11]⟩,
  ⟨.bin .add .other (.tmp 32) (.tmp 33), (some (23, true)), (some 34), [32, 33]⟩,
  ⟨.bin .add .other (.tmp 34) (.lit (.int .i64 1)), (some (23, true)), (some 35), [34]⟩,
  ⟨.iaddr 1 (.tmp 31) (.tmp 35), (some (23, true)), (some 36), [31, 35]⟩,
  ⟨.load none (.tmp 36), (some (23, true)), (some 37), [36]⟩]
def m51r4 : List MOper := [⟨.callv (.tmp 24) [(.tmp 30), (.tmp 37)], (some (23, true)), (some 38), [24, 30, 37]⟩,
  ⟨.bin .lss .other (.tmp 38) (.lit (.int .i64 0)), (some (23, true)), (some 39), [38]⟩,
  ⟨.pick (.tmp 23) (.tmp 39) (.lit (.bool false)), none, (some 40), [23, 39]⟩]
def m51r5 : List MOper := [⟨.mv (.tmp 11), none, (some 41), [11]⟩,
  ⟨.bin .add .other (.tmp 41) (.lit (.int .i64 1)), none, (some 42), [41]⟩,
  ⟨.mv (.tmp 42), none, (some 11), [42]⟩]
def m51r6 : List MOper := [⟨.mv (.tmp 4), none, (some 43), [4]⟩,
  ⟨.mv (.tmp 0), none, (some 44), [0]⟩,
  ⟨.mv (.tmp 3), none, (some 45), [3]⟩,
  ⟨.mv (.tmp 10), none, (some 46), [10]⟩,
  ⟨.bin .add .other (.tmp 45) (.tmp 46), none, (some 47), [45, 46]⟩,
  ⟨.iaddr 1 (.tmp 44) (.tmp 47), none, (some 48), [44, 47]⟩,
  ⟨.load none (.tmp 48), none, (some 49), [48]⟩,
  ⟨.mv (.tmp 0), none, (some 50), [0]⟩,
  ⟨.mv (.tmp 3), none, (some 51), [3]⟩,
  ⟨.mv (.tmp 11), none, (some 52), [11]⟩,
  ⟨.bin .add .other (.tmp 51) (.tmp 52), none, (some 53), [51, 52]⟩,
  ⟨.iaddr 1 (.tmp 50) (.tmp 53), none, (some 54), [50, 53]⟩,
  ⟨.load none (.tmp 54), none, (some 55), [54]⟩]
def m51r7 : List MOper := [⟨.callv (.tmp 43) [(.tmp 49), (.tmp 55)], none, (some 56), [43, 49, 55]⟩,
  ⟨.bin .lss .other (.tmp 56) (.lit (.int .i64 0)), none, (some 57), [56]⟩,
  ⟨.un .not (.tmp 57), none, (some 58), [57]⟩]
def m51r8 : List MOper := [⟨.mv (.tmp 0), none, (some 59), [0]⟩,
  ⟨.mv (.tmp 3), none, (some 60), [3]⟩,
  ⟨.mv (.tmp 10), none, (some 61), [10]⟩,
  ⟨.bin .add .other (.tmp 60) (.tmp 61), none, (some 62), [60, 61]⟩,
  ⟨.mv (.tmp 0), none, (some 63), [0]⟩,
  ⟨.mv (.tmp 3), none, (some 64), [3]⟩,
  ⟨.mv (.tmp 11), none, (some 65), [11]⟩,
  ⟨.bin .add .other (.tmp 64) (.tmp 65), none, (some 66), [64, 65]⟩,
  ⟨.mv (.tmp 0), none, (some 67), [0]⟩,
  ⟨.mv (.tmp 3), none, (some 68), [3]⟩,
  ⟨.mv (.tmp 11), none, (some 69), [11]⟩,
  ⟨.bin .add .other (.tmp 68) (.tmp 69), none, (some 70), [68, 69]⟩,
  ⟨.iaddr 1 (.tmp 67) (.tmp 70), none, (some 71), [67, 70]⟩,
  ⟨.load none (.tmp 71), none, (some 72), [71]⟩,
  ⟨.mv (.tmp 0), none, (some 73), [0]⟩,
  ⟨.mv (.tmp 3), none, (some 74), [3]⟩,
  ⟨.mv (.tmp 10), none, (some 75), [10]⟩,
  ⟨.bin .add .other (.tmp 74) (.tmp 75), none, (some 76), [74, 75]⟩,
  ⟨.iaddr 1 (.tmp 73) (.tmp 76), none, (some 77), [73, 76]⟩,
  ⟨.load none (.tmp 77), none, (some 78), [77]⟩]
def m51r9 : List MOper := [⟨.iaddr 1 (.tmp 59) (.tmp 62), none, (some 79), [59, 62]⟩,
  ⟨.store 1 (.tmp 79) (.tmp 72), none, none, [79, 72]⟩,
  ⟨.iaddr 1 (.tmp 63) (.tmp 66), none, (some 80), [63, 66]⟩,
  ⟨.store 1 (.tmp 80) (.tmp 78), none, none, [80, 78]⟩]
def m51r10 : List MOper := [⟨.mv (.tmp 11), none, (some 81), [11]⟩,
  ⟨.mv (.tmp 81), none, (some 10), [81]⟩]
def m51l11 : MCode := (.block 1 (.seq (.region m51r1 [0, 2, 3, 4, 10, 11])
  (.seq (.seq (.region m51r2 [0, 2, 3, 4, 10, 11, 18])
  (.cond (.tmp 18)
  (.exit 0)
  .skip))
  (.seq (.seq (.dregion m51r3 m51r4 [] [0, 2, 3, 4, 10, 11, 40])
  (.cond (.tmp 40)
  (.region m51r5 [0, 2, 3, 4, 10, 11])
  .skip))
  (.seq (.seq (.dregion m51r6 m51r7 [] [0, 2, 3, 4, 10, 11, 58])
  (.cond (.tmp 58)
  .ret
  .skip))
  (.seq (.dregion m51r8 m51r9 [] [0, 2, 3, 4, 11])
  (.region m51r10 [0, 2, 3, 4, 10])))))))
def m51 : MFunc := ⟨82, [],
  (.seq (.region m51r0 [0, 2, 3, 4, 10])
  (.block 0 (.loop [0, 2, 3, 4, 10] m51l11)))⟩
def h51 : List RH := [⟨[0, 2, 3, 4, 10], 0, false, []⟩, ⟨[0, 2, 3, 4, 10], 0, false, []⟩, ⟨[0, 2, 3, 4, 10, 11], 0, false, []⟩, ⟨[0, 2, 3, 4, 10, 11, 18], 0, false, []⟩, ⟨[0, 2, 3, 4, 10, 11, 40], 19, false, []⟩, ⟨[0, 2, 3, 4, 10, 11], 0, false, []⟩, ⟨[0, 2, 3, 4, 10, 11, 58], 13, false, []⟩, ⟨[0, 2, 3, 4, 11], 20, false, []⟩, ⟨[0, 2, 3, 4, 10], 0, false, []⟩]
theorem m51_ok : cmpFn Try.prog 51 h51 = some m51 := by kernel_rfl

/- slices.nextPowerOfTwo -/
def m52r0 : List MOper := [⟨.mv (.lit (.int .u64 0)), none, (some 2), []⟩]
def m52r1 : List MOper := [⟨.mv (.tmp 0), none, (some 3), [0]⟩,
  ⟨.conv .u64 (.tmp 3), none, (some 4), [3]⟩,
  ⟨.call 31 [(.tmp 4)], none, (some 5), [4]⟩,
  ⟨.bin .shl .other (.lit (.int .u64 1)) (.tmp 5), none, (some 6), [5]⟩,
  ⟨.mv (.tmp 6), none, (some 2), [6]⟩]
def m52 : MFunc := ⟨7, [.tmp 2],
  (.seq (.region m52r0 [0])
  (.seq (.region m52r1 [2])
  .ret))⟩
def h52 : List RH := [⟨[0], 0, false, []⟩, ⟨[2], 0, false, []⟩]
theorem m52_ok : cmpFn Try.prog 52 h52 = some m52 := by kernel_rfl

/- (*slices.xorshift).Next -/
def m53r0 : List MOper := [⟨.mv (.lit (.int .u64 0)), none, (some 2), []⟩]
def m53r1 : List MOper := [⟨.mv (.tmp 0), none, (some 3), [0]⟩,
  ⟨.nilchk (.tmp 3), none, (some 4), [3]⟩,
  ⟨.load none (.tmp 4), none, (some 5), [4]⟩]
def m53r2 : List MOper := [⟨.mv (.tmp 0), none, (some 6), [0]⟩,
  ⟨.nilchk (.tmp 6), none, (some 7), [6]⟩,
  ⟨.load none (.tmp 7), none, (some 8), [7]⟩,
  ⟨.bin .shl .other (.tmp 8) (.lit (.int .u64 13)), none, (some 9), [8]⟩,
  ⟨.bin .xor .other (.tmp 5) (.tmp 9), none, (some 10), [5, 9]⟩,
  ⟨.nilchk (.tmp 3), none, (some 11), [3]⟩,
  ⟨.store 1 (.tmp 11) (.tmp 10), none, none, [11, 10]⟩]
def m53r3 : List MOper := [⟨.load none (.tmp 4), none, (some 5), [4]⟩]
def m53r4 : List MOper := [⟨.load none (.tmp 4), none, (some 5), [4]⟩]
def m53r5 : List MOper := [⟨.load none (.tmp 4), none, (some 5), [4]⟩]
def m53r6 : List MOper := [⟨.load none (.tmp 4), none, (some 5), [4]⟩]
def m53r7 : List MOper := [⟨.load none (.tmp 4), none, (some 5), [4]⟩]
def m53r8 : List MOper := [⟨.mv (.tmp 0), none, (some 12), [0]⟩,
  ⟨.nilchk (.tmp 12), none, (some 13), [12]⟩,
  ⟨.load none (.tmp 13), none, (some 14), [13]⟩]
def m53r9 : List MOper := [⟨.mv (.tmp 0), none, (some 15), [0]⟩,
  ⟨.nilchk (.tmp 15), none, (some 16), [15]⟩,
  ⟨.load none (.tmp 16), none, (some 17), [16]⟩,
  ⟨.bin .shr .other (.tmp 17) (.lit (.int .u64 7)), none, (some 18), [17]⟩,
  ⟨.bin .xor .other (.tmp 14) (.tmp 18), none, (some 19), [14, 18]⟩,
  ⟨.nilchk (.tmp 12), none, (some 20), [12]⟩,
  ⟨.store 1 (.tmp 20) (.tmp 19), none, none, [20, 19]⟩]
def m53r10 : List MOper := [⟨.load none (.tmp 13), none, (some 14), [13]⟩]
def m53r11 : List MOper := [⟨.load none (.tmp 13), none, (some 14), [13]⟩]
def m53r12 : List MOper := [⟨.load none (.tmp 13), none, (some 14), [13]⟩]
def m53r13 : List MOper := [⟨.load none (.tmp 13), none, (some 14), [13]⟩]
def m53r14 : List MOper := [⟨.load none (.tmp 13), none, (some 14), [13]⟩]
def m53r15 : List MOper := [⟨.mv (.tmp 0), none, (some 21), [0]⟩,
  ⟨.nilchk (.tmp 21), none, (some 22), [21]⟩,
  ⟨.load none (.tmp 22), none, (some 23), [22]⟩]
def m53r16 : List MOper := [⟨.mv (.tmp 0), none, (some 24), [0]⟩,
  ⟨.nilchk (.tmp 24), none, (some 25), [24]⟩,
  ⟨.load none (.tmp 25), none, (some 26), [25]⟩,
  ⟨.bin .shl .other (.tmp 26) (.lit (.int .u64 17)), none, (some 27), [26]⟩,
  ⟨.bin .xor .other (.tmp 23) (.tmp 27), none, (some 28), [23, 27]⟩,
  ⟨.nilchk (.tmp 21), none, (some 29), [21]⟩,
  ⟨.store 1 (.tmp 29) (.tmp 28), none, none, [29, 28]⟩]
def m53r17 : List MOper := [⟨.load none (.tmp 22), none, (some 23), [22]⟩]
def m53r18 : List MOper := [⟨.load none (.tmp 22), none, (some 23), [22]⟩]
def m53r19 : List MOper := [⟨.load none (.tmp 22), none, (some 23), [22]⟩]
def m53r20 : List MOper := [⟨.load none (.tmp 22), none, (some 23), [22]⟩]
def m53r21 : List MOper := [⟨.load none (.tmp 22), none, (some 23), [22]⟩]
def m53r22 : List MOper := [⟨.mv (.tmp 0), none, (some 30), [0]⟩,
  ⟨.nilchk (.tmp 30), none, (some 31), [30]⟩,
  ⟨.load none (.tmp 31), none, (some 32), [31]⟩,
  ⟨.mv (.tmp 32), none, (some 2), [32]⟩]
def m53 : MFunc := ⟨33, [.tmp 2],
  (.seq (.region m53r0 [0])
  (.seq (.dregion m53r1 m53r2 [m53r3, m53r4, m53r5, m53r6, m53r7, [], [], []] [0])
  (.seq (.dregion m53r8 m53r9 [m53r10, m53r11, m53r12, m53r13, m53r14, [], [], []] [0])
  (.seq (.dregion m53r15 m53r16 [m53r17, m53r18, m53r19, m53r20, m53r21, [], [], []] [0])
  (.seq (.region m53r22 [2])
  .ret)))))⟩
def h53 : List RH := [⟨[0], 0, false, []⟩, ⟨[0], 3, false, []⟩, ⟨[0], 3, false, []⟩, ⟨[0], 3, false, []⟩, ⟨[2], 0, false, []⟩]
theorem m53_ok : cmpFn Try.prog 53 h53 = some m53 := by kernel_rfl

/- slices.medianAdjacentCmpFunc[string] -/
def m54r0 : List MOper := [⟨.mv (.lit (.int .i64 0)), none, (some 8), []⟩]
def m54r1 : List MOper := [⟨.mv (.tmp 0), none, (some 9), [0]⟩,
  ⟨.mv (.tmp 1), none, (some 10), [1]⟩,
  ⟨.bin .sub .other (.tmp 10) (.lit (.int .i64 1)), none, (some 11), [10]⟩,
  ⟨.mv (.tmp 1), none, (some 12), [1]⟩,
  ⟨.mv (.tmp 1), none, (some 13), [1]⟩,
  ⟨.bin .add .other (.tmp 13) (.lit (.int .i64 1)), none, (some 14), [13]⟩,
  ⟨.mv (.tmp 2), none, (some 15), [2]⟩,
  ⟨.mv (.tmp 3), none, (some 16), [3]⟩,
  ⟨.call 55 [(.tmp 9), (.tmp 11), (.tmp 12), (.tmp 14), (.tmp 15), (.tmp 16)], none, (some 17), [9, 11, 12, 14, 15, 16]⟩,
  ⟨.mv (.tmp 17), none, (some 8), [17]⟩]
def m54 : MFunc := ⟨18, [.tmp 8],
  (.seq (.region m54r0 [0, 1, 2, 3])
  (.seq (.region m54r1 [8])
  .ret))⟩
def h54 : List RH := [⟨[0, 1, 2, 3], 0, false, []⟩, ⟨[8], 0, false, []⟩]
theorem m54_ok : cmpFn Try.prog 54 h54 = some m54 := by kernel_rfl

/- slices.medianCmpFunc[string] -/
def m55r0 : List MOper := [⟨.mv (.lit (.int .i64 0)), none, (some 12), []⟩]
def m55r1 : List MOper := [⟨.mv (.tmp 0), none, (some 14), [0]⟩,
  ⟨.mv (.tmp 1), none, (some 15), [1]⟩,
  ⟨.mv (.tmp 2), none, (some 16), [2]⟩,
  ⟨.mv (.tmp 4), none, (some 17), [4]⟩,
  ⟨.mv (.tmp 5), none, (some 18), [5]⟩,
  ⟨.call 56 [(.tmp 14), (.tmp 15), (.tmp 16), (.tmp 17), (.tmp 18)], none, (some 19), [14, 15, 16, 17, 18]⟩,
  ⟨.mv (.tmp 19), none, (some 13), [19]⟩,
  ⟨.ext 0 (.tmp 13), none, (some 20), [13]⟩,
  ⟨.ext 1 (.tmp 13), none, (some 21), [13]⟩,
  ⟨.mv (.tmp 20), none, (some 1), [20]⟩,
  ⟨.mv (.tmp 21), none, (some 2), [21]⟩]
def m55r2 : List MOper := [⟨.mv (.tmp 0), none, (some 23), [0]⟩,
  ⟨.mv (.tmp 2), none, (some 24), [2]⟩,
  ⟨.mv (.tmp 3), none, (some 25), [3]⟩,
  ⟨.mv (.tmp 4), none, (some 26), [4]⟩,
  ⟨.mv (.tmp 5), none, (some 27), [5]⟩,
  ⟨.call 56 [(.tmp 23), (.tmp 24), (.tmp 25), (.tmp 26), (.tmp 27)], none, (some 28), [23, 24, 25, 26, 27]⟩,
  ⟨.mv (.tmp 28), none, (some 22), [28]⟩,
  ⟨.ext 0 (.tmp 22), none, (some 29), [22]⟩,
  ⟨.ext 1 (.tmp 22), none, (some 30), [22]⟩,
  ⟨.mv (.tmp 29), none, (some 2), [29]⟩,
  ⟨.mv (.tmp 30), none, (some 3), [30]⟩]
def m55r3 : List MOper := [⟨.mv (.tmp 0), none, (some 32), [0]⟩,
  ⟨.mv (.tmp 1), none, (some 33), [1]⟩,
  ⟨.mv (.tmp 2), none, (some 34), [2]⟩,
  ⟨.mv (.tmp 4), none, (some 35), [4]⟩,
  ⟨.mv (.tmp 5), none, (some 36), [5]⟩,
  ⟨.call 56 [(.tmp 32), (.tmp 33), (.tmp 34), (.tmp 35), (.tmp 36)], none, (some 37), [32, 33, 34, 35, 36]⟩,
  ⟨.mv (.tmp 37), none, (some 31), [37]⟩,
  ⟨.ext 0 (.tmp 31), none, (some 38), [31]⟩,
  ⟨.ext 1 (.tmp 31), none, (some 39), [31]⟩,
  ⟨.mv (.tmp 38), none, (some 1), [38]⟩,
  ⟨.mv (.tmp 39), none, (some 2), [39]⟩]
def m55r4 : List MOper := [⟨.mv (.tmp 2), none, (some 40), [2]⟩,
  ⟨.mv (.tmp 40), none, (some 12), [40]⟩]
def m55 : MFunc := ⟨41, [.tmp 12],
  (.seq (.region m55r0 [0, 1, 2, 3, 4, 5])
  (.seq (.region m55r1 [0, 1, 2, 3, 4, 5])
  (.seq (.region m55r2 [0, 1, 2, 4, 5])
  (.seq (.region m55r3 [2])
  (.seq (.region m55r4 [12])
  .ret)))))⟩
def h55 : List RH := [⟨[0, 1, 2, 3, 4, 5], 0, false, []⟩, ⟨[0, 1, 2, 3, 4, 5], 0, false, []⟩, ⟨[0, 1, 2, 4, 5], 0, false, []⟩, ⟨[2], 0, false, []⟩, ⟨[12], 0, false, []⟩]
theorem m55_ok : cmpFn Try.prog 55 h55 = some m55 := by kernel_rfl

/- slices.order2CmpFunc[string] -/
def m56r0 : List MOper := [⟨.mv (.lit (.int .i64 0)), none, (some 10), []⟩,
  ⟨.mv (.lit (.int .i64 0)), none, (some 11), []⟩]
def m56r1 : List MOper := [⟨.mv (.tmp 4), none, (some 12), [4]⟩,
  ⟨.mv (.tmp 0), none, (some 13), [0]⟩,
  ⟨.mv (.tmp 2), none, (some 14), [2]⟩,
  ⟨.iaddr 1 (.tmp 13) (.tmp 14), none, (some 15), [13, 14]⟩,
  ⟨.load none (.tmp 15), none, (some 16), [15]⟩,
  ⟨.mv (.tmp 0), none, (some 17), [0]⟩,
  ⟨.mv (.tmp 1), none, (some 18), [1]⟩,
  ⟨.iaddr 1 (.tmp 17) (.tmp 18), none, (some 19), [17, 18]⟩,
  ⟨.load none (.tmp 19), none, (some 20), [19]⟩]
def m56r2 : List MOper := [⟨.callv (.tmp 12) [(.tmp 16), (.tmp 20)], none, (some 21), [12, 16, 20]⟩,
  ⟨.bin .lss .other (.tmp 21) (.lit (.int .i64 0)), none, (some 22), [21]⟩]
def m56r3 : List MOper := [⟨.mv (.tmp 3), none, (some 23), [3]⟩,
  ⟨.nilchk (.tmp 23), none, (some 24), [23]⟩,
  ⟨.load none (.tmp 24), none, (some 25), [24]⟩,
  ⟨.bin .add .other (.tmp 25) (.lit (.int .i64 1)), none, (some 26), [25]⟩,
  ⟨.nilchk (.tmp 23), none, (some 27), [23]⟩,
  ⟨.store 1 (.tmp 27) (.tmp 26), none, none, [27, 26]⟩]
def m56r4 : List MOper := [⟨.mv (.tmp 2), none, (some 28), [2]⟩,
  ⟨.mv (.tmp 1), none, (some 29), [1]⟩,
  ⟨.mv (.tmp 28), none, (some 10), [28]⟩,
  ⟨.mv (.tmp 29), none, (some 11), [29]⟩]
def m56r5 : List MOper := [⟨.mv (.tmp 1), none, (some 30), [1]⟩,
  ⟨.mv (.tmp 2), none, (some 31), [2]⟩,
  ⟨.mv (.tmp 30), none, (some 10), [30]⟩,
  ⟨.mv (.tmp 31), none, (some 11), [31]⟩]
def m56 : MFunc := ⟨32, [.tmp 10, .tmp 11],
  (.seq (.region m56r0 [0, 1, 2, 3, 4])
  (.seq (.seq (.dregion m56r1 m56r2 [] [1, 2, 3, 22])
  (.cond (.tmp 22)
  (.seq (.region m56r3 [1, 2])
  (.seq (.region m56r4 [10, 11])
  .ret))
  .skip))
  (.seq (.region m56r5 [10, 11])
  .ret)))⟩
def h56 : List RH := [⟨[0, 1, 2, 3, 4], 0, false, []⟩, ⟨[1, 2, 3, 22], 9, false, []⟩, ⟨[1, 2], 0, false, []⟩, ⟨[10, 11], 0, false, []⟩, ⟨[10, 11], 0, false, []⟩]
theorem m56_ok : cmpFn Try.prog 56 h56 = some m56 := by kernel_rfl

end Go.Ab.Try.S
