/-
  The translated functions of this claim, printed by a program of ours (gen.sh), with the kernel's word that they are the translation.
  Conditions: none.
-/
import Derived.Test.YthpmmdlhoaonaaaProg
import Derived.Test.YthpmmdlhoaonaaaAbEval
import Derived.KernelRfl
namespace Go.Ab.Try.S
open Go.Proofs
/- dialtone/dialtonelaw20.JournalLogs -/
def m9r0 : List MOper := [⟨.box 3 (.tmp 0), none, (some 3), [0]⟩,
  ⟨.box 2 (.tmp 1), none, (some 4), [1]⟩,
  ⟨.mv (.lit (.bool false)), none, (some 6), []⟩]
def m9r1 : List MOper := [⟨.faddr 0 (.tmp 3), none, (some 11), [3]⟩,
  ⟨.load none (.tmp 11), none, (some 12), [11]⟩,
  ⟨.len 1 (.tmp 12), none, (some 13), [12]⟩,
  ⟨.bin .gtr .other (.tmp 13) (.lit (.int .i64 5000)), none, (some 14), [13]⟩,
  ⟨.mv (.tmp 14), none, (some 15), [14]⟩,
  ⟨.faddr 1 (.tmp 4), (some (15, false)), (some 16), [4]⟩,
  ⟨.load none (.tmp 16), (some (15, false)), (some 17), [16]⟩,
  ⟨.len 1 (.tmp 17), (some (15, false)), (some 18), [17]⟩,
  ⟨.bin .gtr .other (.tmp 18) (.lit (.int .i64 5000)), (some (15, false)), (some 19), [18]⟩,
  ⟨.pick (.tmp 15) (.lit (.bool true)) (.tmp 19), none, (some 20), [15, 19]⟩]
def m9r2 : List MOper := [⟨.call 11 [], none, (some 21), []⟩,
  ⟨.mv (.tmp 21), none, (some 6), [21]⟩]
def m9r3 : List MOper := [⟨.load (some 3) (.tmp 3), none, (some 23), [3]⟩,
  ⟨.load (some 2) (.tmp 4), none, (some 24), [4]⟩,
  ⟨.call 25 [(.tmp 23), (.tmp 24)], none, (some 25), [23, 24]⟩,
  ⟨.mv (.tmp 25), none, (some 22), [25]⟩,
  ⟨.ext 0 (.tmp 22), none, (some 26), [22]⟩,
  ⟨.ext 1 (.tmp 22), none, (some 27), [22]⟩,
  ⟨.zbox [.nils, (.int .i64 0), (.int .i64 0)], none, (some 7), []⟩,
  ⟨.store 3 (.tmp 7) (.tmp 26), none, none, [7, 26]⟩,
  ⟨.mv (.tmp 27), none, (some 8), [27]⟩]
def m9r4 : List MOper := [⟨.load (some 3) (.tmp 3), none, (some 29), [3]⟩,
  ⟨.load (some 2) (.tmp 4), none, (some 30), [4]⟩,
  ⟨.call 26 [(.tmp 29), (.tmp 30)], none, (some 31), [29, 30]⟩,
  ⟨.mv (.tmp 31), none, (some 28), [31]⟩,
  ⟨.ext 0 (.tmp 28), none, (some 32), [28]⟩,
  ⟨.ext 1 (.tmp 28), none, (some 33), [28]⟩,
  ⟨.zbox [.nils, (.int .i64 0), (.int .i64 0)], none, (some 9), []⟩,
  ⟨.store 3 (.tmp 9) (.tmp 32), none, none, [9, 32]⟩,
  ⟨.mv (.tmp 33), none, (some 10), [33]⟩]
def m9r5 : List MOper := [⟨.load (some 3) (.tmp 3), none, (some 34), [3]⟩,
  ⟨.call 27 [(.tmp 34)], none, (some 35), [34]⟩,
  ⟨.load (some 3) (.tmp 3), none, (some 36), [3]⟩,
  ⟨.call 28 [(.tmp 36)], none, (some 37), [36]⟩,
  ⟨.bin .eql .bool (.tmp 35) (.tmp 37), none, (some 38), [35, 37]⟩,
  ⟨.mv (.tmp 38), none, (some 39), [38]⟩,
  ⟨.load (some 3) (.tmp 7), (some (39, true)), (some 40), [7]⟩,
  ⟨.load (some 3) (.tmp 9), (some (39, true)), (some 41), [9]⟩,
  ⟨.call 23 [(.tmp 40), (.tmp 41)], (some (39, true)), (some 42), [40, 41]⟩,
  ⟨.pick (.tmp 39) (.tmp 42) (.lit (.bool false)), none, (some 43), [39, 42]⟩,
  ⟨.mv (.tmp 43), none, (some 44), [43]⟩,
  ⟨.mv (.tmp 8), (some (44, true)), (some 45), [8]⟩,
  ⟨.mv (.tmp 10), (some (44, true)), (some 46), [10]⟩,
  ⟨.bin .eql .other (.tmp 45) (.tmp 46), (some (44, true)), (some 47), [45, 46]⟩,
  ⟨.pick (.tmp 44) (.tmp 47) (.lit (.bool false)), none, (some 48), [44, 47]⟩,
  ⟨.mv (.tmp 48), none, (some 49), [48]⟩,
  ⟨.load (some 3) (.tmp 3), (some (49, true)), (some 50), [3]⟩,
  ⟨.call 29 [(.tmp 50)], (some (49, true)), (some 51), [50]⟩,
  ⟨.load (some 3) (.tmp 3), (some (49, true)), (some 52), [3]⟩,
  ⟨.call 30 [(.tmp 52)], (some (49, true)), (some 53), [52]⟩,
  ⟨.call 23 [(.tmp 51), (.tmp 53)], (some (49, true)), (some 54), [51, 53]⟩,
  ⟨.pick (.tmp 49) (.tmp 54) (.lit (.bool false)), none, (some 55), [49, 54]⟩,
  ⟨.mv (.tmp 55), none, (some 56), [55]⟩,
  ⟨.load (some 3) (.tmp 3), (some (56, true)), (some 57), [3]⟩,
  ⟨.mv (.tmp 2), (some (56, true)), (some 58), [2]⟩,
  ⟨.call 24 [(.tmp 57), (.tmp 58)], (some (56, true)), (some 59), [57, 58]⟩,
  ⟨.tostr (.tmp 59), (some (56, true)), (some 60), [59]⟩,
  ⟨.load (some 3) (.tmp 3), (some (56, true)), (some 61), [3]⟩,
  ⟨.mv (.tmp 2), (some (56, true)), (some 62), [2]⟩,
  ⟨.call 31 [(.tmp 61), (.tmp 62)], (some (56, true)), (some 63), [61, 62]⟩,
  ⟨.tostr (.tmp 63), (some (56, true)), (some 64), [63]⟩]
def m9r6 : List MOper := [⟨.bin .eql .other (.tmp 60) (.tmp 64), (some (56, true)), (some 65), [60, 64]⟩,
  ⟨.pick (.tmp 56) (.tmp 65) (.lit (.bool false)), none, (some 66), [56, 65]⟩,
  ⟨.mv (.tmp 66), none, (some 67), [66]⟩,
  ⟨.call 11 [], (some (67, true)), (some 68), []⟩,
  ⟨.pick (.tmp 67) (.tmp 68) (.lit (.bool false)), none, (some 69), [67, 68]⟩,
  ⟨.mv (.tmp 69), none, (some 6), [69]⟩]
def m9 : MFunc := ⟨70, [.tmp 6],
  (.seq (.region m9r0 [2, 3, 4])
  (.seq (.seq (.region m9r1 [2, 3, 4, 20])
  (.cond (.tmp 20)
  (.seq (.region m9r2 [6])
  .ret)
  .skip))
  (.seq (.region m9r3 [2, 3, 4, 7, 8])
  (.seq (.region m9r4 [2, 3, 7, 8, 9, 10])
  (.seq (.dregion m9r5 m9r6 [] [6])
  .ret)))))⟩
def h9 : List RH := [⟨[2, 3, 4], 0, false, []⟩, ⟨[2, 3, 4, 20], 0, false, []⟩, ⟨[6], 0, false, []⟩, ⟨[2, 3, 4, 7, 8], 0, false, []⟩, ⟨[2, 3, 7, 8, 9, 10], 0, false, []⟩, ⟨[6], 31, false, []⟩]
theorem m9_ok : cmpFn Try.prog 9 h9 = some m9 := by kernel_rfl

/- dialtone/dialtonelaw20.JournalScans -/
def m7r0 : List MOper := [⟨.mv (.lit (.bool false)), none, (some 2), []⟩]
def m7r1 : List MOper := [⟨.mv (.tmp 0), none, (some 13), [0]⟩,
  ⟨.len 1 (.tmp 13), none, (some 14), [13]⟩,
  ⟨.bin .gtr .other (.tmp 14) (.lit (.int .i64 20000)), none, (some 15), [14]⟩]
def m7r2 : List MOper := [⟨.call 11 [], none, (some 16), []⟩,
  ⟨.mv (.tmp 16), none, (some 2), [16]⟩]
def m7r3 : List MOper := [⟨.mv (.tmp 0), none, (some 18), [0]⟩,
  ⟨.call 18 [(.tmp 18)], none, (some 19), [18]⟩,
  ⟨.mv (.tmp 19), none, (some 17), [19]⟩,
  ⟨.ext 0 (.tmp 17), none, (some 20), [17]⟩,
  ⟨.ext 1 (.tmp 17), none, (some 21), [17]⟩,
  ⟨.ext 2 (.tmp 17), none, (some 22), [17]⟩,
  ⟨.mv (.tmp 20), none, (some 3), [20]⟩,
  ⟨.mv (.tmp 21), none, (some 4), [21]⟩,
  ⟨.mv (.tmp 22), none, (some 5), [22]⟩]
def m7r4 : List MOper := [⟨.mv (.tmp 0), none, (some 24), [0]⟩,
  ⟨.call 20 [(.tmp 24)], none, (some 25), [24]⟩,
  ⟨.mv (.tmp 25), none, (some 23), [25]⟩,
  ⟨.ext 0 (.tmp 23), none, (some 26), [23]⟩,
  ⟨.ext 1 (.tmp 23), none, (some 27), [23]⟩,
  ⟨.ext 2 (.tmp 23), none, (some 28), [23]⟩,
  ⟨.mv (.tmp 26), none, (some 6), [26]⟩,
  ⟨.mv (.tmp 27), none, (some 7), [27]⟩,
  ⟨.mv (.tmp 28), none, (some 8), [28]⟩]
def m7r5 : List MOper := [⟨.mv (.tmp 0), none, (some 30), [0]⟩,
  ⟨.call 21 [(.tmp 30)], none, (some 31), [30]⟩,
  ⟨.mv (.tmp 31), none, (some 29), [31]⟩,
  ⟨.ext 0 (.tmp 29), none, (some 32), [29]⟩,
  ⟨.ext 1 (.tmp 29), none, (some 33), [29]⟩,
  ⟨.zbox [.nils, (.int .i64 0), (.int .i64 0)], none, (some 9), []⟩,
  ⟨.store 3 (.tmp 9) (.tmp 32), none, none, [9, 32]⟩,
  ⟨.mv (.tmp 33), none, (some 10), [33]⟩]
def m7r6 : List MOper := [⟨.mv (.tmp 0), none, (some 35), [0]⟩,
  ⟨.call 22 [(.tmp 35)], none, (some 36), [35]⟩,
  ⟨.mv (.tmp 36), none, (some 34), [36]⟩,
  ⟨.ext 0 (.tmp 34), none, (some 37), [34]⟩,
  ⟨.ext 1 (.tmp 34), none, (some 38), [34]⟩,
  ⟨.zbox [.nils, (.int .i64 0), (.int .i64 0)], none, (some 11), []⟩,
  ⟨.store 3 (.tmp 11) (.tmp 37), none, none, [11, 37]⟩,
  ⟨.mv (.tmp 38), none, (some 12), [38]⟩]
def m7r7 : List MOper := [⟨.mv (.tmp 3), none, (some 39), [3]⟩,
  ⟨.mv (.tmp 6), none, (some 40), [6]⟩,
  ⟨.call 19 [(.tmp 39), (.tmp 40)], none, (some 41), [39, 40]⟩,
  ⟨.mv (.tmp 41), none, (some 42), [41]⟩,
  ⟨.mv (.tmp 4), (some (42, true)), (some 43), [4]⟩,
  ⟨.mv (.tmp 7), (some (42, true)), (some 44), [7]⟩,
  ⟨.bin .eql .other (.tmp 43) (.tmp 44), (some (42, true)), (some 45), [43, 44]⟩,
  ⟨.pick (.tmp 42) (.tmp 45) (.lit (.bool false)), none, (some 46), [42, 45]⟩,
  ⟨.mv (.tmp 46), none, (some 47), [46]⟩,
  ⟨.mv (.tmp 5), (some (47, true)), (some 48), [5]⟩,
  ⟨.mv (.tmp 8), (some (47, true)), (some 49), [8]⟩,
  ⟨.bin .eql .other (.tmp 48) (.tmp 49), (some (47, true)), (some 50), [48, 49]⟩,
  ⟨.pick (.tmp 47) (.tmp 50) (.lit (.bool false)), none, (some 51), [47, 50]⟩,
  ⟨.mv (.tmp 51), none, (some 52), [51]⟩,
  ⟨.load (some 3) (.tmp 9), (some (52, true)), (some 53), [9]⟩,
  ⟨.load (some 3) (.tmp 11), (some (52, true)), (some 54), [11]⟩,
  ⟨.call 23 [(.tmp 53), (.tmp 54)], (some (52, true)), (some 55), [53, 54]⟩,
  ⟨.pick (.tmp 52) (.tmp 55) (.lit (.bool false)), none, (some 56), [52, 55]⟩,
  ⟨.mv (.tmp 56), none, (some 57), [56]⟩,
  ⟨.mv (.tmp 10), (some (57, true)), (some 58), [10]⟩,
  ⟨.mv (.tmp 12), (some (57, true)), (some 59), [12]⟩,
  ⟨.call 19 [(.tmp 58), (.tmp 59)], (some (57, true)), (some 60), [58, 59]⟩,
  ⟨.pick (.tmp 57) (.tmp 60) (.lit (.bool false)), none, (some 61), [57, 60]⟩,
  ⟨.mv (.tmp 61), none, (some 62), [61]⟩,
  ⟨.call 11 [], (some (62, true)), (some 63), []⟩,
  ⟨.pick (.tmp 62) (.tmp 63) (.lit (.bool false)), none, (some 64), [62, 63]⟩,
  ⟨.mv (.tmp 64), none, (some 2), [64]⟩]
def m7 : MFunc := ⟨65, [.tmp 2],
  (.seq (.region m7r0 [0])
  (.seq (.seq (.region m7r1 [0, 15])
  (.cond (.tmp 15)
  (.seq (.region m7r2 [2])
  .ret)
  .skip))
  (.seq (.region m7r3 [0, 3, 4, 5])
  (.seq (.region m7r4 [0, 3, 4, 5, 6, 7, 8])
  (.seq (.region m7r5 [0, 3, 4, 5, 6, 7, 8, 9, 10])
  (.seq (.region m7r6 [3, 4, 5, 6, 7, 8, 9, 10, 11, 12])
  (.seq (.region m7r7 [2])
  .ret)))))))⟩
def h7 : List RH := [⟨[0], 0, false, []⟩, ⟨[0, 15], 0, false, []⟩, ⟨[2], 0, false, []⟩, ⟨[0, 3, 4, 5], 0, false, []⟩, ⟨[0, 3, 4, 5, 6, 7, 8], 0, false, []⟩, ⟨[0, 3, 4, 5, 6, 7, 8, 9, 10], 0, false, []⟩, ⟨[3, 4, 5, 6, 7, 8, 9, 10, 11, 12], 0, false, []⟩, ⟨[2], 0, false, []⟩]
theorem m7_ok : cmpFn Try.prog 7 h7 = some m7 := by kernel_rfl

/- dialtone/dialtonelaw20.JournalCuts -/
def m4r0 : List MOper := [⟨.mv (.lit (.bool false)), none, (some 4), []⟩]
def m4r1 : List MOper := [⟨.mv (.tmp 0), none, (some 14), [0]⟩,
  ⟨.call 16 [(.tmp 14)], none, (some 15), [14]⟩,
  ⟨.mv (.tmp 15), none, (some 0), [15]⟩]
def m4r2 : List MOper := [⟨.mv (.tmp 0), none, (some 17), [0]⟩,
  ⟨.call 17 [(.tmp 17)], none, (some 18), [17]⟩,
  ⟨.mv (.tmp 18), none, (some 16), [18]⟩,
  ⟨.ext 0 (.tmp 16), none, (some 19), [16]⟩,
  ⟨.ext 1 (.tmp 16), none, (some 20), [16]⟩,
  ⟨.ext 2 (.tmp 16), none, (some 21), [16]⟩,
  ⟨.zbox [.nils, (.int .i64 0), (.int .i64 0)], none, (some 5), []⟩,
  ⟨.store 3 (.tmp 5) (.tmp 19), none, none, [5, 19]⟩,
  ⟨.mv (.tmp 20), none, (some 6), [20]⟩,
  ⟨.mv (.tmp 21), none, (some 7), [21]⟩]
def m4r3 : List MOper := [⟨.mv (.tmp 7), none, (some 22), [7]⟩,
  ⟨.un .not (.tmp 22), none, (some 23), [22]⟩]
def m4r4 : List MOper := [⟨.mv (.lit (.bool false)), none, (some 4), []⟩]
def m4r5 : List MOper := [⟨.mv (.tmp 1), none, (some 24), [1]⟩,
  ⟨.conv .i64 (.tmp 24), none, (some 25), [24]⟩,
  ⟨.faddr 0 (.tmp 5), none, (some 26), [5]⟩,
  ⟨.load none (.tmp 26), none, (some 27), [26]⟩,
  ⟨.len 1 (.tmp 27), none, (some 28), [27]⟩,
  ⟨.bin .add .other (.tmp 28) (.lit (.int .i64 1)), none, (some 29), [28]⟩,
  ⟨.bin .rem .other (.tmp 25) (.tmp 29), none, (some 30), [25, 29]⟩,
  ⟨.mv (.tmp 30), none, (some 8), [30]⟩]
def m4r6 : List MOper := [⟨.mv (.lit (.int .i64 0)), none, (some 9), []⟩,
  ⟨.mv (.lit (.int .i64 0)), none, (some 10), []⟩]
def m4r7 : List MOper := [⟨.mv (.tmp 9), none, (some 31), [9]⟩,
  ⟨.mv (.tmp 6), none, (some 32), [6]⟩,
  ⟨.len 1 (.tmp 32), none, (some 33), [32]⟩,
  ⟨.bin .lss .other (.tmp 31) (.tmp 33), none, (some 34), [31, 33]⟩,
  ⟨.mv (.tmp 34), none, (some 35), [34]⟩,
  ⟨.mv (.tmp 6), (some (35, true)), (some 36), [6]⟩,
  ⟨.mv (.tmp 9), (some (35, true)), (some 37), [9]⟩,
  ⟨.iaddr 1 (.tmp 36) (.tmp 37), (some (35, true)), (some 38), [36, 37]⟩,
  ⟨.load none (.tmp 38), (some (35, true)), (some 39), [38]⟩,
  ⟨.mv (.tmp 8), (some (35, true)), (some 40), [8]⟩,
  ⟨.bin .leq .other (.tmp 39) (.tmp 40), (some (35, true)), (some 41), [39, 40]⟩,
  ⟨.pick (.tmp 35) (.tmp 41) (.lit (.bool false)), none, (some 42), [35, 41]⟩]
def m4r8 : List MOper := [⟨.mv (.tmp 6), none, (some 43), [6]⟩,
  ⟨.mv (.tmp 9), none, (some 44), [9]⟩,
  ⟨.iaddr 1 (.tmp 43) (.tmp 44), none, (some 45), [43, 44]⟩,
  ⟨.load none (.tmp 45), none, (some 46), [45]⟩,
  ⟨.mv (.tmp 46), none, (some 10), [46]⟩]
def m4r9 : List MOper := [⟨.mv (.tmp 9), none, (some 47), [9]⟩,
  ⟨.bin .add .other (.tmp 47) (.lit (.int .i64 1)), none, (some 48), [47]⟩,
  ⟨.mv (.tmp 48), none, (some 9), [48]⟩]
def m4l10 : MCode := (.seq (.seq (.region m4r7 [0, 5, 6, 8, 9, 10, 42])
  (.cond (.tmp 42)
  .skip
  (.exit 0)))
  (.block 1 (.seq (.region m4r8 [0, 5, 6, 8, 9, 10])
  (.region m4r9 [0, 5, 6, 8, 9, 10]))))
def m4r11 : List MOper := [⟨.faddr 0 (.tmp 5), none, (some 50), [5]⟩,
  ⟨.load none (.tmp 50), none, (some 51), [50]⟩,
  ⟨.mv (.tmp 8), none, (some 52), [8]⟩,
  ⟨.slc 1 (.tmp 51) none (some (.tmp 52)) none, none, (some 53), [51, 52]⟩,
  ⟨.call 18 [(.tmp 53)], none, (some 54), [53]⟩,
  ⟨.mv (.tmp 54), none, (some 49), [54]⟩,
  ⟨.ext 0 (.tmp 49), none, (some 55), [49]⟩,
  ⟨.ext 1 (.tmp 49), none, (some 56), [49]⟩,
  ⟨.ext 2 (.tmp 49), none, (some 57), [49]⟩,
  ⟨.mv (.tmp 55), none, (some 11), [55]⟩,
  ⟨.mv (.tmp 56), none, (some 12), [56]⟩,
  ⟨.mv (.tmp 57), none, (some 13), [57]⟩]
def m4r12 : List MOper := [⟨.mv (.tmp 12), none, (some 58), [12]⟩,
  ⟨.mv (.tmp 10), none, (some 59), [10]⟩,
  ⟨.bin .neq .other (.tmp 58) (.tmp 59), none, (some 60), [58, 59]⟩,
  ⟨.mv (.tmp 60), none, (some 61), [60]⟩,
  ⟨.mv (.tmp 0), (some (61, false)), (some 62), [0]⟩,
  ⟨.mv (.tmp 9), (some (61, false)), (some 63), [9]⟩,
  ⟨.slc 2 (.tmp 62) none (some (.tmp 63)) none, (some (61, false)), (some 64), [62, 63]⟩,
  ⟨.mv (.tmp 11), (some (61, false)), (some 65), [11]⟩,
  ⟨.call 19 [(.tmp 64), (.tmp 65)], (some (61, false)), (some 66), [64, 65]⟩,
  ⟨.un .not (.tmp 66), (some (61, false)), (some 67), [66]⟩,
  ⟨.pick (.tmp 61) (.lit (.bool true)) (.tmp 67), none, (some 68), [61, 67]⟩]
def m4r13 : List MOper := [⟨.mv (.lit (.bool false)), none, (some 4), []⟩]
def m4r14 : List MOper := [⟨.mv (.tmp 13), none, (some 69), [13]⟩,
  ⟨.bin .eql .other (.tmp 69) (.lit (.int .u8 0)), none, (some 70), [69]⟩,
  ⟨.mv (.tmp 10), none, (some 71), [10]⟩,
  ⟨.mv (.tmp 8), none, (some 72), [8]⟩,
  ⟨.bin .eql .other (.tmp 71) (.tmp 72), none, (some 73), [71, 72]⟩,
  ⟨.bin .eql .bool (.tmp 70) (.tmp 73), none, (some 74), [70, 73]⟩,
  ⟨.mv (.tmp 74), none, (some 75), [74]⟩,
  ⟨.mv (.tmp 13), (some (75, true)), (some 76), [13]⟩,
  ⟨.bin .eql .other (.tmp 76) (.lit (.int .u8 0)), (some (75, true)), (some 77), [76]⟩,
  ⟨.mv (.tmp 77), (some (75, true)), (some 78), [77]⟩,
  ⟨.mv (.tmp 13), (some (78, false)), (some 79), [13]⟩,
  ⟨.bin .eql .other (.tmp 79) (.lit (.int .u8 6)), (some (78, false)), (some 80), [79]⟩,
  ⟨.pick (.tmp 78) (.lit (.bool true)) (.tmp 80), (some (75, true)), (some 81), [78, 80]⟩,
  ⟨.pick (.tmp 75) (.tmp 81) (.lit (.bool false)), none, (some 82), [75, 81]⟩,
  ⟨.mv (.tmp 82), none, (some 83), [82]⟩,
  ⟨.call 11 [], (some (83, true)), (some 84), []⟩,
  ⟨.pick (.tmp 83) (.tmp 84) (.lit (.bool false)), none, (some 85), [83, 84]⟩,
  ⟨.mv (.tmp 85), none, (some 4), [85]⟩]
def m4 : MFunc := ⟨86, [.tmp 4],
  (.seq (.region m4r0 [0, 1])
  (.seq (.region m4r1 [0, 1])
  (.seq (.region m4r2 [0, 1, 5, 6, 7])
  (.seq (.seq (.region m4r3 [0, 1, 5, 6, 23])
  (.cond (.tmp 23)
  (.seq (.region m4r4 [4])
  .ret)
  .skip))
  (.seq (.region m4r5 [0, 5, 6, 8])
  (.seq (.region m4r6 [0, 5, 6, 8, 9, 10])
  (.seq (.block 0 (.loop [0, 5, 6, 8, 9, 10] m4l10))
  (.seq (.region m4r11 [0, 8, 9, 10, 11, 12, 13])
  (.seq (.seq (.region m4r12 [8, 10, 13, 68])
  (.cond (.tmp 68)
  (.seq (.region m4r13 [4])
  .ret)
  .skip))
  (.seq (.region m4r14 [4])
  .ret))))))))))⟩
def h4 : List RH := [⟨[0, 1], 0, false, []⟩, ⟨[0, 1], 0, false, []⟩, ⟨[0, 1, 5, 6, 7], 0, false, []⟩, ⟨[0, 1, 5, 6, 23], 0, false, []⟩, ⟨[4], 0, false, []⟩, ⟨[0, 5, 6, 8], 0, false, []⟩, ⟨[0, 5, 6, 8, 9, 10], 0, false, []⟩, ⟨[0, 5, 6, 8, 9, 10], 0, false, []⟩, ⟨[0, 5, 6, 8, 9, 10, 42], 0, false, []⟩, ⟨[0, 5, 6, 8, 9, 10], 0, false, []⟩, ⟨[0, 5, 6, 8, 9, 10], 0, false, []⟩, ⟨[0, 8, 9, 10, 11, 12, 13], 0, false, []⟩, ⟨[8, 10, 13, 68], 0, false, []⟩, ⟨[4], 0, false, []⟩, ⟨[4], 0, false, []⟩]
theorem m4_ok : cmpFn Try.prog 4 h4 = some m4 := by kernel_rfl

/- dialtone/dialtonelaw20.JournalBits -/
def m5r0 : List MOper := [⟨.mv (.lit (.bool false)), none, (some 4), []⟩]
def m5r1 : List MOper := [⟨.mv (.tmp 0), none, (some 15), [0]⟩,
  ⟨.call 16 [(.tmp 15)], none, (some 16), [15]⟩,
  ⟨.mv (.tmp 16), none, (some 0), [16]⟩]
def m5r2 : List MOper := [⟨.mv (.tmp 0), none, (some 18), [0]⟩,
  ⟨.call 17 [(.tmp 18)], none, (some 19), [18]⟩,
  ⟨.mv (.tmp 19), none, (some 17), [19]⟩,
  ⟨.ext 0 (.tmp 17), none, (some 20), [17]⟩,
  ⟨.ext 1 (.tmp 17), none, (some 21), [17]⟩,
  ⟨.ext 2 (.tmp 17), none, (some 22), [17]⟩,
  ⟨.zbox [.nils, (.int .i64 0), (.int .i64 0)], none, (some 5), []⟩,
  ⟨.store 3 (.tmp 5) (.tmp 20), none, none, [5, 20]⟩,
  ⟨.mv (.tmp 21), none, (some 6), [21]⟩,
  ⟨.mv (.tmp 22), none, (some 7), [22]⟩]
def m5r3 : List MOper := [⟨.mv (.tmp 7), none, (some 23), [7]⟩,
  ⟨.un .not (.tmp 23), none, (some 24), [23]⟩]
def m5r4 : List MOper := [⟨.mv (.lit (.bool false)), none, (some 4), []⟩]
def m5r5 : List MOper := [⟨.mv (.tmp 0), none, (some 25), [0]⟩,
  ⟨.len 1 (.tmp 25), none, (some 26), [25]⟩,
  ⟨.bin .eql .other (.tmp 26) (.lit (.int .i64 0)), none, (some 27), [26]⟩]
def m5r6 : List MOper := [⟨.call 11 [], none, (some 28), []⟩,
  ⟨.mv (.tmp 28), none, (some 4), [28]⟩]
def m5r7 : List MOper := [⟨.mv (.tmp 1), none, (some 29), [1]⟩,
  ⟨.conv .i64 (.tmp 29), none, (some 30), [29]⟩,
  ⟨.faddr 0 (.tmp 5), none, (some 31), [5]⟩,
  ⟨.load none (.tmp 31), none, (some 32), [31]⟩,
  ⟨.len 1 (.tmp 32), none, (some 33), [32]⟩,
  ⟨.bin .mul .other (.lit (.int .i64 8)) (.tmp 33), none, (some 34), [33]⟩,
  ⟨.bin .rem .other (.tmp 30) (.tmp 34), none, (some 35), [30, 34]⟩,
  ⟨.mv (.tmp 35), none, (some 8), [35]⟩]
def m5r8 : List MOper := [⟨.mv (.lit .nils), none, (some 9), []⟩]
def m5r9 : List MOper := [⟨.mv (.tmp 9), none, (some 36), [9]⟩,
  ⟨.faddr 0 (.tmp 5), none, (some 37), [5]⟩,
  ⟨.load none (.tmp 37), none, (some 38), [37]⟩,
  ⟨.append 1 1 (.tmp 36) (.tmp 38), none, (some 39), [36, 38]⟩,
  ⟨.mv (.tmp 39), none, (some 9), [39]⟩]
def m5r10 : List MOper := [⟨.mv (.tmp 9), none, (some 40), [9]⟩,
  ⟨.mv (.tmp 8), none, (some 41), [8]⟩,
  ⟨.bin .quo .other (.tmp 41) (.lit (.int .i64 8)), none, (some 42), [41]⟩,
  ⟨.mv (.tmp 9), none, (some 43), [9]⟩,
  ⟨.mv (.tmp 8), none, (some 44), [8]⟩,
  ⟨.bin .quo .other (.tmp 44) (.lit (.int .i64 8)), none, (some 45), [44]⟩,
  ⟨.iaddr 1 (.tmp 43) (.tmp 45), none, (some 46), [43, 45]⟩,
  ⟨.load none (.tmp 46), none, (some 47), [46]⟩,
  ⟨.mv (.tmp 8), none, (some 48), [8]⟩,
  ⟨.bin .rem .other (.tmp 48) (.lit (.int .i64 8)), none, (some 49), [48]⟩,
  ⟨.bin .shl .other (.lit (.int .u8 1)) (.tmp 49), none, (some 50), [49]⟩]
def m5r11 : List MOper := [⟨.bin .xor .other (.tmp 47) (.tmp 50), none, (some 51), [47, 50]⟩,
  ⟨.iaddr 1 (.tmp 40) (.tmp 42), none, (some 52), [40, 42]⟩,
  ⟨.store 1 (.tmp 52) (.tmp 51), none, none, [52, 51]⟩]
def m5r12 : List MOper := [⟨.mv (.lit (.int .i64 0)), none, (some 10), []⟩]
def m5r13 : List MOper := [⟨.mv (.tmp 6), none, (some 53), [6]⟩,
  ⟨.mv (.tmp 10), none, (some 54), [10]⟩,
  ⟨.iaddr 1 (.tmp 53) (.tmp 54), none, (some 55), [53, 54]⟩,
  ⟨.load none (.tmp 55), none, (some 56), [55]⟩,
  ⟨.mv (.tmp 8), none, (some 57), [8]⟩,
  ⟨.bin .quo .other (.tmp 57) (.lit (.int .i64 8)), none, (some 58), [57]⟩,
  ⟨.bin .leq .other (.tmp 56) (.tmp 58), none, (some 59), [56, 58]⟩]
def m5r14 : List MOper := [⟨.mv (.tmp 10), none, (some 60), [10]⟩,
  ⟨.bin .add .other (.tmp 60) (.lit (.int .i64 1)), none, (some 61), [60]⟩,
  ⟨.mv (.tmp 61), none, (some 10), [61]⟩]
def m5l15 : MCode := (.seq (.seq (.region m5r13 [0, 6, 8, 9, 10, 59])
  (.cond (.tmp 59)
  .skip
  (.exit 0)))
  (.block 1 (.region m5r14 [0, 6, 8, 9, 10])))
def m5r16 : List MOper := [⟨.mv (.tmp 9), none, (some 63), [9]⟩,
  ⟨.call 18 [(.tmp 63)], none, (some 64), [63]⟩,
  ⟨.mv (.tmp 64), none, (some 62), [64]⟩,
  ⟨.ext 0 (.tmp 62), none, (some 65), [62]⟩,
  ⟨.ext 1 (.tmp 62), none, (some 66), [62]⟩,
  ⟨.ext 2 (.tmp 62), none, (some 67), [62]⟩,
  ⟨.mv (.tmp 65), none, (some 11), [65]⟩,
  ⟨.mv (.tmp 66), none, (some 12), [66]⟩,
  ⟨.mv (.tmp 67), none, (some 13), [67]⟩]
def m5r17 : List MOper := [⟨.mv (.lit (.int .i64 0)), none, (some 14), []⟩]
def m5r18 : List MOper := [⟨.mv (.tmp 10), none, (some 68), [10]⟩,
  ⟨.bin .gtr .other (.tmp 68) (.lit (.int .i64 0)), none, (some 69), [68]⟩]
def m5r19 : List MOper := [⟨.mv (.tmp 6), none, (some 70), [6]⟩,
  ⟨.mv (.tmp 10), none, (some 71), [10]⟩,
  ⟨.bin .sub .other (.tmp 71) (.lit (.int .i64 1)), none, (some 72), [71]⟩,
  ⟨.iaddr 1 (.tmp 70) (.tmp 72), none, (some 73), [70, 72]⟩,
  ⟨.load none (.tmp 73), none, (some 74), [73]⟩,
  ⟨.mv (.tmp 74), none, (some 14), [74]⟩]
def m5r20 : List MOper := [⟨.mv (.tmp 12), none, (some 75), [12]⟩,
  ⟨.mv (.tmp 14), none, (some 76), [14]⟩,
  ⟨.bin .eql .other (.tmp 75) (.tmp 76), none, (some 77), [75, 76]⟩,
  ⟨.mv (.tmp 77), none, (some 78), [77]⟩,
  ⟨.mv (.tmp 0), (some (78, true)), (some 79), [0]⟩,
  ⟨.mv (.tmp 10), (some (78, true)), (some 80), [10]⟩,
  ⟨.slc 2 (.tmp 79) none (some (.tmp 80)) none, (some (78, true)), (some 81), [79, 80]⟩,
  ⟨.mv (.tmp 11), (some (78, true)), (some 82), [11]⟩,
  ⟨.call 19 [(.tmp 81), (.tmp 82)], (some (78, true)), (some 83), [81, 82]⟩,
  ⟨.pick (.tmp 78) (.tmp 83) (.lit (.bool false)), none, (some 84), [78, 83]⟩,
  ⟨.mv (.tmp 84), none, (some 85), [84]⟩,
  ⟨.mv (.tmp 13), (some (85, true)), (some 86), [13]⟩,
  ⟨.bin .eql .other (.tmp 86) (.lit (.int .u8 5)), (some (85, true)), (some 87), [86]⟩,
  ⟨.mv (.tmp 87), (some (85, true)), (some 88), [87]⟩,
  ⟨.mv (.tmp 13), (some (88, false)), (some 89), [13]⟩,
  ⟨.bin .eql .other (.tmp 89) (.lit (.int .u8 11)), (some (88, false)), (some 90), [89]⟩,
  ⟨.pick (.tmp 88) (.lit (.bool true)) (.tmp 90), (some (85, true)), (some 91), [88, 90]⟩,
  ⟨.pick (.tmp 85) (.tmp 91) (.lit (.bool false)), none, (some 92), [85, 91]⟩,
  ⟨.mv (.tmp 92), none, (some 93), [92]⟩,
  ⟨.call 11 [], (some (93, true)), (some 94), []⟩,
  ⟨.pick (.tmp 93) (.tmp 94) (.lit (.bool false)), none, (some 95), [93, 94]⟩,
  ⟨.mv (.tmp 95), none, (some 4), [95]⟩]
def m5 : MFunc := ⟨96, [.tmp 4],
  (.seq (.region m5r0 [0, 1])
  (.seq (.region m5r1 [0, 1])
  (.seq (.region m5r2 [0, 1, 5, 6, 7])
  (.seq (.seq (.region m5r3 [0, 1, 5, 6, 24])
  (.cond (.tmp 24)
  (.seq (.region m5r4 [4])
  .ret)
  .skip))
  (.seq (.seq (.region m5r5 [0, 1, 5, 6, 27])
  (.cond (.tmp 27)
  (.seq (.region m5r6 [4])
  .ret)
  .skip))
  (.seq (.region m5r7 [0, 5, 6, 8])
  (.seq (.region m5r8 [0, 5, 6, 8, 9])
  (.seq (.region m5r9 [0, 6, 8, 9])
  (.seq (.dregion m5r10 m5r11 [] [0, 6, 8, 9])
  (.seq (.region m5r12 [0, 6, 8, 9, 10])
  (.seq (.block 0 (.loop [0, 6, 8, 9, 10] m5l15))
  (.seq (.region m5r16 [0, 6, 10, 11, 12, 13])
  (.seq (.region m5r17 [0, 6, 10, 11, 12, 13, 14])
  (.seq (.seq (.region m5r18 [0, 6, 10, 11, 12, 13, 14, 69])
  (.cond (.tmp 69)
  (.region m5r19 [0, 10, 11, 12, 13, 14])
  .skip))
  (.seq (.region m5r20 [4])
  .ret)))))))))))))))⟩
def h5 : List RH := [⟨[0, 1], 0, false, []⟩, ⟨[0, 1], 0, false, []⟩, ⟨[0, 1, 5, 6, 7], 0, false, []⟩, ⟨[0, 1, 5, 6, 24], 0, false, []⟩, ⟨[4], 0, false, []⟩, ⟨[0, 1, 5, 6, 27], 0, false, []⟩, ⟨[4], 0, false, []⟩, ⟨[0, 5, 6, 8], 0, false, []⟩, ⟨[0, 5, 6, 8, 9], 0, false, []⟩, ⟨[0, 6, 8, 9], 0, false, []⟩, ⟨[0, 6, 8, 9], 11, false, []⟩, ⟨[0, 6, 8, 9, 10], 0, false, []⟩, ⟨[0, 6, 8, 9, 10], 0, false, []⟩, ⟨[0, 6, 8, 9, 10, 59], 0, false, []⟩, ⟨[0, 6, 8, 9, 10], 0, false, []⟩, ⟨[0, 6, 10, 11, 12, 13], 0, false, []⟩, ⟨[0, 6, 10, 11, 12, 13, 14], 0, false, []⟩, ⟨[0, 6, 10, 11, 12, 13, 14, 69], 0, false, []⟩, ⟨[0, 10, 11, 12, 13, 14], 0, false, []⟩, ⟨[4], 0, false, []⟩]
theorem m5_ok : cmpFn Try.prog 5 h5 = some m5 := by kernel_rfl

/- dialtone/dialtonelaw20.JournalBursts -/
def m6r0 : List MOper := [⟨.mv (.lit (.bool false)), none, (some 8), []⟩]
def m6r1 : List MOper := [⟨.mv (.tmp 0), none, (some 22), [0]⟩,
  ⟨.call 16 [(.tmp 22)], none, (some 23), [22]⟩,
  ⟨.mv (.tmp 23), none, (some 0), [23]⟩]
def m6r2 : List MOper := [⟨.mv (.tmp 0), none, (some 25), [0]⟩,
  ⟨.call 17 [(.tmp 25)], none, (some 26), [25]⟩,
  ⟨.mv (.tmp 26), none, (some 24), [26]⟩,
  ⟨.ext 0 (.tmp 24), none, (some 27), [24]⟩,
  ⟨.ext 1 (.tmp 24), none, (some 28), [24]⟩,
  ⟨.ext 2 (.tmp 24), none, (some 29), [24]⟩,
  ⟨.zbox [.nils, (.int .i64 0), (.int .i64 0)], none, (some 9), []⟩,
  ⟨.store 3 (.tmp 9) (.tmp 27), none, none, [9, 27]⟩,
  ⟨.mv (.tmp 28), none, (some 10), [28]⟩,
  ⟨.mv (.tmp 29), none, (some 11), [29]⟩]
def m6r3 : List MOper := [⟨.mv (.tmp 11), none, (some 30), [11]⟩,
  ⟨.un .not (.tmp 30), none, (some 31), [30]⟩]
def m6r4 : List MOper := [⟨.mv (.lit (.bool false)), none, (some 8), []⟩]
def m6r5 : List MOper := [⟨.mv (.tmp 0), none, (some 32), [0]⟩,
  ⟨.len 1 (.tmp 32), none, (some 33), [32]⟩,
  ⟨.bin .eql .other (.tmp 33) (.lit (.int .i64 0)), none, (some 34), [33]⟩,
  ⟨.mv (.tmp 34), none, (some 35), [34]⟩,
  ⟨.mv (.tmp 0), (some (35, false)), (some 36), [0]⟩,
  ⟨.mv (.tmp 1), (some (35, false)), (some 37), [1]⟩,
  ⟨.conv .i64 (.tmp 37), (some (35, false)), (some 38), [37]⟩,
  ⟨.mv (.tmp 0), (some (35, false)), (some 39), [0]⟩,
  ⟨.len 1 (.tmp 39), (some (35, false)), (some 40), [39]⟩,
  ⟨.bin .rem .other (.tmp 38) (.tmp 40), (some (35, false)), (some 41), [38, 40]⟩,
  ⟨.iaddr 2 (.tmp 36) (.tmp 41), (some (35, false)), (some 42), [36, 41]⟩,
  ⟨.faddr 1 (.tmp 42), (some (35, false)), (some 43), [42]⟩,
  ⟨.load none (.tmp 43), (some (35, false)), (some 44), [43]⟩,
  ⟨.len 1 (.tmp 44), (some (35, false)), (some 45), [44]⟩,
  ⟨.bin .eql .other (.tmp 45) (.lit (.int .i64 0)), (some (35, false)), (some 46), [45]⟩,
  ⟨.pick (.tmp 35) (.lit (.bool true)) (.tmp 46), none, (some 47), [35, 46]⟩]
def m6r6 : List MOper := [⟨.call 11 [], none, (some 48), []⟩,
  ⟨.mv (.tmp 48), none, (some 8), [48]⟩]
def m6r7 : List MOper := [⟨.mv (.tmp 1), none, (some 49), [1]⟩,
  ⟨.conv .i64 (.tmp 49), none, (some 50), [49]⟩,
  ⟨.mv (.tmp 0), none, (some 51), [0]⟩,
  ⟨.len 1 (.tmp 51), none, (some 52), [51]⟩,
  ⟨.bin .rem .other (.tmp 50) (.tmp 52), none, (some 53), [50, 52]⟩,
  ⟨.mv (.tmp 53), none, (some 12), [53]⟩]
def m6r8 : List MOper := [⟨.mv (.tmp 0), none, (some 54), [0]⟩,
  ⟨.mv (.tmp 12), none, (some 55), [12]⟩,
  ⟨.iaddr 2 (.tmp 54) (.tmp 55), none, (some 56), [54, 55]⟩,
  ⟨.faddr 1 (.tmp 56), none, (some 57), [56]⟩,
  ⟨.load none (.tmp 57), none, (some 58), [57]⟩,
  ⟨.len 1 (.tmp 58), none, (some 59), [58]⟩,
  ⟨.bin .mul .other (.lit (.int .i64 8)) (.tmp 59), none, (some 60), [59]⟩,
  ⟨.mv (.tmp 60), none, (some 13), [60]⟩]
def m6r9 : List MOper := [⟨.mv (.tmp 10), none, (some 61), [10]⟩,
  ⟨.mv (.tmp 12), none, (some 62), [12]⟩,
  ⟨.iaddr 1 (.tmp 61) (.tmp 62), none, (some 63), [61, 62]⟩,
  ⟨.load none (.tmp 63), none, (some 64), [63]⟩,
  ⟨.bin .sub .other (.tmp 64) (.lit (.int .i64 4)), none, (some 65), [64]⟩,
  ⟨.mv (.tmp 0), none, (some 66), [0]⟩,
  ⟨.mv (.tmp 12), none, (some 67), [12]⟩,
  ⟨.iaddr 2 (.tmp 66) (.tmp 67), none, (some 68), [66, 67]⟩,
  ⟨.faddr 1 (.tmp 68), none, (some 69), [68]⟩,
  ⟨.load none (.tmp 69), none, (some 70), [69]⟩,
  ⟨.len 1 (.tmp 70), none, (some 71), [70]⟩]
def m6r10 : List MOper := [⟨.bin .sub .other (.tmp 65) (.tmp 71), none, (some 72), [65, 71]⟩,
  ⟨.mv (.tmp 72), none, (some 14), [72]⟩]
def m6r11 : List MOper := [⟨.mv (.lit .nils), none, (some 15), []⟩]
def m6r12 : List MOper := [⟨.mv (.tmp 15), none, (some 73), [15]⟩,
  ⟨.faddr 0 (.tmp 9), none, (some 74), [9]⟩,
  ⟨.load none (.tmp 74), none, (some 75), [74]⟩,
  ⟨.append 1 1 (.tmp 73) (.tmp 75), none, (some 76), [73, 75]⟩,
  ⟨.mv (.tmp 76), none, (some 15), [76]⟩]
def m6r13 : List MOper := [⟨.mv (.lit (.bool false)), none, (some 16), []⟩]
def m6r14 : List MOper := [⟨.mv (.lit (.int .i64 0)), none, (some 17), []⟩]
def m6r15 : List MOper := [⟨.mv (.tmp 17), none, (some 77), [17]⟩,
  ⟨.bin .lss .other (.tmp 77) (.lit (.int .i64 32)), none, (some 78), [77]⟩]
def m6r16 : List MOper := [⟨.mv (.tmp 2), none, (some 81), [2]⟩,
  ⟨.conv .i64 (.tmp 81), none, (some 82), [81]⟩,
  ⟨.mv (.tmp 13), none, (some 83), [13]⟩,
  ⟨.bin .rem .other (.tmp 82) (.tmp 83), none, (some 84), [82, 83]⟩,
  ⟨.mv (.tmp 17), none, (some 85), [17]⟩,
  ⟨.bin .add .other (.tmp 84) (.tmp 85), none, (some 86), [84, 85]⟩,
  ⟨.mv (.tmp 86), none, (some 18), [86]⟩]
def m6r17 : List MOper := [⟨.mv (.tmp 3), none, (some 87), [3]⟩,
  ⟨.mv (.tmp 17), none, (some 88), [17]⟩,
  ⟨.bin .shr .other (.tmp 87) (.tmp 88), none, (some 89), [87, 88]⟩,
  ⟨.bin .and .other (.tmp 89) (.lit (.int .u32 1)), none, (some 90), [89]⟩,
  ⟨.bin .eql .other (.tmp 90) (.lit (.int .u32 1)), none, (some 91), [90]⟩,
  ⟨.mv (.tmp 91), none, (some 92), [91]⟩,
  ⟨.mv (.tmp 18), (some (92, true)), (some 93), [18]⟩,
  ⟨.mv (.tmp 13), (some (92, true)), (some 94), [13]⟩,
  ⟨.bin .lss .other (.tmp 93) (.tmp 94), (some (92, true)), (some 95), [93, 94]⟩,
  ⟨.pick (.tmp 92) (.tmp 95) (.lit (.bool false)), none, (some 96), [92, 95]⟩]
def m6r18 : List MOper := [⟨.mv (.tmp 15), none, (some 97), [15]⟩,
  ⟨.mv (.tmp 14), none, (some 98), [14]⟩,
  ⟨.mv (.tmp 18), none, (some 99), [18]⟩,
  ⟨.bin .quo .other (.tmp 99) (.lit (.int .i64 8)), none, (some 100), [99]⟩,
  ⟨.bin .add .other (.tmp 98) (.tmp 100), none, (some 101), [98, 100]⟩,
  ⟨.mv (.tmp 15), none, (some 102), [15]⟩,
  ⟨.mv (.tmp 14), none, (some 103), [14]⟩,
  ⟨.mv (.tmp 18), none, (some 104), [18]⟩,
  ⟨.bin .quo .other (.tmp 104) (.lit (.int .i64 8)), none, (some 105), [104]⟩,
  ⟨.bin .add .other (.tmp 103) (.tmp 105), none, (some 106), [103, 105]⟩,
  ⟨.iaddr 1 (.tmp 102) (.tmp 106), none, (some 107), [102, 106]⟩,
  ⟨.load none (.tmp 107), none, (some 108), [107]⟩,
  ⟨.mv (.tmp 18), none, (some 109), [18]⟩,
  ⟨.bin .rem .other (.tmp 109) (.lit (.int .i64 8)), none, (some 110), [109]⟩,
  ⟨.bin .shl .other (.lit (.int .u8 1)) (.tmp 110), none, (some 111), [110]⟩]
def m6r19 : List MOper := [⟨.bin .xor .other (.tmp 108) (.tmp 111), none, (some 112), [108, 111]⟩,
  ⟨.iaddr 1 (.tmp 97) (.tmp 101), none, (some 113), [97, 101]⟩,
  ⟨.store 1 (.tmp 113) (.tmp 112), none, none, [113, 112]⟩]
def m6r20 : List MOper := [⟨.mv (.lit (.bool true)), none, (some 16), []⟩]
def m6r21 : List MOper := [⟨.mv (.tmp 17), none, (some 79), [17]⟩,
  ⟨.bin .add .other (.tmp 79) (.lit (.int .i64 1)), none, (some 80), [79]⟩,
  ⟨.mv (.tmp 80), none, (some 17), [80]⟩]
def m6l22 : MCode := (.seq (.seq (.region m6r15 [0, 2, 3, 10, 12, 13, 14, 15, 16, 17, 78])
  (.cond (.tmp 78)
  .skip
  (.exit 0)))
  (.seq (.block 1 (.seq (.region m6r16 [0, 2, 3, 10, 12, 13, 14, 15, 16, 17, 18])
  (.seq (.region m6r17 [0, 2, 3, 10, 12, 13, 14, 15, 16, 17, 18, 96])
  (.cond (.tmp 96)
  (.seq (.dregion m6r18 m6r19 [] [0, 2, 3, 10, 12, 13, 14, 15, 17])
  (.region m6r20 [0, 2, 3, 10, 12, 13, 14, 15, 16, 17]))
  .skip))))
  (.region m6r21 [0, 2, 3, 10, 12, 13, 14, 15, 16, 17])))
def m6r23 : List MOper := [⟨.mv (.tmp 15), none, (some 115), [15]⟩,
  ⟨.call 18 [(.tmp 115)], none, (some 116), [115]⟩,
  ⟨.mv (.tmp 116), none, (some 114), [116]⟩,
  ⟨.ext 0 (.tmp 114), none, (some 117), [114]⟩,
  ⟨.ext 1 (.tmp 114), none, (some 118), [114]⟩,
  ⟨.ext 2 (.tmp 114), none, (some 119), [114]⟩,
  ⟨.mv (.tmp 117), none, (some 19), [117]⟩,
  ⟨.mv (.tmp 118), none, (some 20), [118]⟩,
  ⟨.mv (.tmp 119), none, (some 21), [119]⟩]
def m6r24 : List MOper := [⟨.mv (.tmp 16), none, (some 120), [16]⟩,
  ⟨.un .not (.tmp 120), none, (some 121), [120]⟩]
def m6r25 : List MOper := [⟨.mv (.tmp 21), none, (some 122), [21]⟩,
  ⟨.bin .eql .other (.tmp 122) (.lit (.int .u8 0)), none, (some 123), [122]⟩,
  ⟨.mv (.tmp 123), none, (some 124), [123]⟩,
  ⟨.call 11 [], (some (124, true)), (some 125), []⟩,
  ⟨.pick (.tmp 124) (.tmp 125) (.lit (.bool false)), none, (some 126), [124, 125]⟩,
  ⟨.mv (.tmp 126), none, (some 8), [126]⟩]
def m6r26 : List MOper := [⟨.mv (.tmp 21), none, (some 127), [21]⟩,
  ⟨.bin .eql .other (.tmp 127) (.lit (.int .u8 11)), none, (some 128), [127]⟩,
  ⟨.mv (.tmp 128), none, (some 129), [128]⟩,
  ⟨.mv (.tmp 20), (some (129, true)), (some 130), [20]⟩,
  ⟨.mv (.tmp 10), (some (129, true)), (some 131), [10]⟩,
  ⟨.mv (.tmp 12), (some (129, true)), (some 132), [12]⟩,
  ⟨.iaddr 1 (.tmp 131) (.tmp 132), (some (129, true)), (some 133), [131, 132]⟩,
  ⟨.load none (.tmp 133), (some (129, true)), (some 134), [133]⟩,
  ⟨.bin .sub .other (.tmp 134) (.lit (.int .i64 14)), (some (129, true)), (some 135), [134]⟩,
  ⟨.mv (.tmp 0), (some (129, true)), (some 136), [0]⟩,
  ⟨.mv (.tmp 12), (some (129, true)), (some 137), [12]⟩,
  ⟨.iaddr 2 (.tmp 136) (.tmp 137), (some (129, true)), (some 138), [136, 137]⟩,
  ⟨.faddr 1 (.tmp 138), (some (129, true)), (some 139), [138]⟩,
  ⟨.load none (.tmp 139), (some (129, true)), (some 140), [139]⟩,
  ⟨.len 1 (.tmp 140), (some (129, true)), (some 141), [140]⟩,
  ⟨.bin .sub .other (.tmp 135) (.tmp 141), (some (129, true)), (some 142), [135, 141]⟩,
  ⟨.bin .eql .other (.tmp 130) (.tmp 142), (some (129, true)), (some 143), [130, 142]⟩,
  ⟨.pick (.tmp 129) (.tmp 143) (.lit (.bool false)), none, (some 144), [129, 143]⟩,
  ⟨.mv (.tmp 144), none, (some 145), [144]⟩,
  ⟨.mv (.tmp 0), (some (145, true)), (some 146), [0]⟩,
  ⟨.mv (.tmp 12), (some (145, true)), (some 147), [12]⟩,
  ⟨.slc 2 (.tmp 146) none (some (.tmp 147)) none, (some (145, true)), (some 148), [146, 147]⟩,
  ⟨.mv (.tmp 19), (some (145, true)), (some 149), [19]⟩]
def m6r27 : List MOper := [⟨.call 19 [(.tmp 148), (.tmp 149)], (some (145, true)), (some 150), [148, 149]⟩,
  ⟨.pick (.tmp 145) (.tmp 150) (.lit (.bool false)), none, (some 151), [145, 150]⟩,
  ⟨.mv (.tmp 151), none, (some 152), [151]⟩,
  ⟨.call 11 [], (some (152, true)), (some 153), []⟩,
  ⟨.pick (.tmp 152) (.tmp 153) (.lit (.bool false)), none, (some 154), [152, 153]⟩,
  ⟨.mv (.tmp 154), none, (some 8), [154]⟩]
def m6 : MFunc := ⟨155, [.tmp 8],
  (.seq (.region m6r0 [0, 1, 2, 3])
  (.seq (.region m6r1 [0, 1, 2, 3])
  (.seq (.region m6r2 [0, 1, 2, 3, 9, 10, 11])
  (.seq (.seq (.region m6r3 [0, 1, 2, 3, 9, 10, 31])
  (.cond (.tmp 31)
  (.seq (.region m6r4 [8])
  .ret)
  .skip))
  (.seq (.seq (.region m6r5 [0, 1, 2, 3, 9, 10, 47])
  (.cond (.tmp 47)
  (.seq (.region m6r6 [8])
  .ret)
  .skip))
  (.seq (.region m6r7 [0, 2, 3, 9, 10, 12])
  (.seq (.region m6r8 [0, 2, 3, 9, 10, 12, 13])
  (.seq (.dregion m6r9 m6r10 [] [0, 2, 3, 9, 10, 12, 13, 14])
  (.seq (.region m6r11 [0, 2, 3, 9, 10, 12, 13, 14, 15])
  (.seq (.region m6r12 [0, 2, 3, 10, 12, 13, 14, 15])
  (.seq (.region m6r13 [0, 2, 3, 10, 12, 13, 14, 15, 16])
  (.seq (.seq (.region m6r14 [0, 2, 3, 10, 12, 13, 14, 15, 16, 17])
  (.block 0 (.loop [0, 2, 3, 10, 12, 13, 14, 15, 16, 17] m6l22)))
  (.seq (.region m6r23 [0, 10, 12, 16, 19, 20, 21])
  (.seq (.seq (.region m6r24 [0, 10, 12, 19, 20, 21, 121])
  (.cond (.tmp 121)
  (.seq (.region m6r25 [8])
  .ret)
  .skip))
  (.seq (.dregion m6r26 m6r27 [] [8])
  .ret)))))))))))))))⟩
def h6 : List RH := [⟨[0, 1, 2, 3], 0, false, []⟩, ⟨[0, 1, 2, 3], 0, false, []⟩, ⟨[0, 1, 2, 3, 9, 10, 11], 0, false, []⟩, ⟨[0, 1, 2, 3, 9, 10, 31], 0, false, []⟩, ⟨[8], 0, false, []⟩, ⟨[0, 1, 2, 3, 9, 10, 47], 0, false, []⟩, ⟨[8], 0, false, []⟩, ⟨[0, 2, 3, 9, 10, 12], 0, false, []⟩, ⟨[0, 2, 3, 9, 10, 12, 13], 0, false, []⟩, ⟨[0, 2, 3, 9, 10, 12, 13, 14], 11, false, []⟩, ⟨[0, 2, 3, 9, 10, 12, 13, 14, 15], 0, false, []⟩, ⟨[0, 2, 3, 10, 12, 13, 14, 15], 0, false, []⟩, ⟨[0, 2, 3, 10, 12, 13, 14, 15, 16], 0, false, []⟩, ⟨[0, 2, 3, 10, 12, 13, 14, 15, 16, 17], 0, false, []⟩, ⟨[0, 2, 3, 10, 12, 13, 14, 15, 16, 17], 0, false, []⟩, ⟨[0, 2, 3, 10, 12, 13, 14, 15, 16, 17, 78], 0, false, []⟩, ⟨[0, 2, 3, 10, 12, 13, 14, 15, 16, 17, 18], 0, false, []⟩, ⟨[0, 2, 3, 10, 12, 13, 14, 15, 16, 17, 18, 96], 0, false, []⟩, ⟨[0, 2, 3, 10, 12, 13, 14, 15, 17], 15, false, []⟩, ⟨[0, 2, 3, 10, 12, 13, 14, 15, 16, 17], 0, false, []⟩, ⟨[0, 2, 3, 10, 12, 13, 14, 15, 16, 17], 0, false, []⟩, ⟨[0, 10, 12, 16, 19, 20, 21], 0, false, []⟩, ⟨[0, 10, 12, 19, 20, 21, 121], 0, false, []⟩, ⟨[8], 0, false, []⟩, ⟨[8], 23, false, []⟩]
theorem m6_ok : cmpFn Try.prog 6 h6 = some m6 := by kernel_rfl

/- dialtone/dialtonelaw20.JournalCrashes -/
def m10r0 : List MOper := [⟨.mv (.lit (.bool false)), none, (some 2), []⟩]
def m10r1 : List MOper := [⟨.zbox [.nils, (.int .i64 0), (.int .i64 0)], none, (some 3), []⟩]
def m10r2 : List MOper := [⟨.mv (.lit .nils), none, (some 4), []⟩]
def m10r3 : List MOper := [⟨.mv (.lit (.int .i64 0)), none, (some 5), []⟩]
def m10r4 : List MOper := [⟨.mv (.lit (.int .i64 0)), none, (some 6), []⟩]
def m10r5 : List MOper := [⟨.mv (.tmp 6), none, (some 14), [6]⟩,
  ⟨.mv (.tmp 0), none, (some 15), [0]⟩,
  ⟨.len 1 (.tmp 15), none, (some 16), [15]⟩,
  ⟨.bin .lss .other (.tmp 14) (.tmp 16), none, (some 17), [14, 16]⟩,
  ⟨.mv (.tmp 17), none, (some 18), [17]⟩,
  ⟨.mv (.tmp 6), (some (18, true)), (some 19), [6]⟩,
  ⟨.bin .lss .other (.tmp 19) (.lit (.int .i64 40)), (some (18, true)), (some 20), [19]⟩,
  ⟨.pick (.tmp 18) (.tmp 20) (.lit (.bool false)), none, (some 21), [18, 20]⟩]
def m10r6 : List MOper := [⟨.mv (.tmp 0), none, (some 24), [0]⟩,
  ⟨.mv (.tmp 6), none, (some 25), [6]⟩,
  ⟨.iaddr 4 (.tmp 24) (.tmp 25), none, (some 26), [24, 25]⟩,
  ⟨.faddr 0 (.tmp 26), none, (some 27), [26]⟩,
  ⟨.load none (.tmp 27), none, (some 28), [27]⟩,
  ⟨.bin .rem .other (.tmp 28) (.lit (.int .u8 4)), none, (some 29), [28]⟩]
def m10r7 : List MOper := [⟨.bin .eql .other (.tmp 29) (.lit (.int .u8 0)), none, (some 60), [29]⟩,
  ⟨.mv (.tmp 60), none, (some 59), [60]⟩]
def m10r8 : List MOper := [⟨.load (some 3) (.tmp 3), none, (some 61), [3]⟩,
  ⟨.call 29 [(.tmp 61)], none, (some 62), [61]⟩,
  ⟨.store 3 (.tmp 3) (.tmp 62), none, none, [3, 62]⟩]
def m10r9 : List MOper := [⟨.mv (.tmp 4), none, (some 63), [4]⟩,
  ⟨.len 1 (.tmp 63), none, (some 64), [63]⟩,
  ⟨.mv (.tmp 64), none, (some 5), [64]⟩]
def m10r10 : List MOper := [⟨.bin .eql .other (.tmp 29) (.lit (.int .u8 1)), none, (some 66), [29]⟩,
  ⟨.mv (.tmp 66), none, (some 65), [66]⟩]
def m10r11 : List MOper := [⟨.load (some 3) (.tmp 3), none, (some 68), [3]⟩,
  ⟨.mv (.tmp 0), none, (some 69), [0]⟩,
  ⟨.mv (.tmp 6), none, (some 70), [6]⟩,
  ⟨.iaddr 4 (.tmp 69) (.tmp 70), none, (some 71), [69, 70]⟩,
  ⟨.faddr 3 (.tmp 71), none, (some 72), [71]⟩,
  ⟨.load none (.tmp 72), none, (some 73), [72]⟩,
  ⟨.conv .i64 (.tmp 73), none, (some 74), [73]⟩,
  ⟨.call 24 [(.tmp 68), (.tmp 74)], none, (some 75), [68, 74]⟩,
  ⟨.call 21 [(.tmp 75)], none, (some 76), [75]⟩,
  ⟨.mv (.tmp 76), none, (some 67), [76]⟩,
  ⟨.ext 0 (.tmp 67), none, (some 77), [67]⟩,
  ⟨.ext 1 (.tmp 67), none, (some 78), [67]⟩,
  ⟨.zbox [.nils, (.int .i64 0), (.int .i64 0)], none, (some 7), []⟩]
def m10r12 : List MOper := [⟨.store 3 (.tmp 7) (.tmp 77), none, none, [7, 77]⟩,
  ⟨.mv (.tmp 78), none, (some 8), [78]⟩]
def m10r13 : List MOper := [⟨.mv (.tmp 8), none, (some 79), [8]⟩,
  ⟨.len 1 (.tmp 79), none, (some 80), [79]⟩,
  ⟨.mv (.tmp 5), none, (some 81), [5]⟩,
  ⟨.bin .lss .other (.tmp 80) (.tmp 81), none, (some 82), [80, 81]⟩,
  ⟨.mv (.tmp 82), none, (some 83), [82]⟩,
  ⟨.mv (.tmp 8), (some (83, false)), (some 84), [8]⟩,
  ⟨.len 1 (.tmp 84), (some (83, false)), (some 85), [84]⟩,
  ⟨.mv (.tmp 4), (some (83, false)), (some 86), [4]⟩,
  ⟨.len 1 (.tmp 86), (some (83, false)), (some 87), [86]⟩,
  ⟨.bin .gtr .other (.tmp 85) (.tmp 87), (some (83, false)), (some 88), [85, 87]⟩,
  ⟨.pick (.tmp 83) (.lit (.bool true)) (.tmp 88), none, (some 89), [83, 88]⟩,
  ⟨.mv (.tmp 89), none, (some 90), [89]⟩,
  ⟨.mv (.tmp 8), (some (90, false)), (some 91), [8]⟩,
  ⟨.mv (.tmp 4), (some (90, false)), (some 92), [4]⟩,
  ⟨.mv (.tmp 8), (some (90, false)), (some 93), [8]⟩,
  ⟨.len 1 (.tmp 93), (some (90, false)), (some 94), [93]⟩,
  ⟨.slc 2 (.tmp 92) none (some (.tmp 94)) none, (some (90, false)), (some 95), [92, 94]⟩,
  ⟨.call 19 [(.tmp 91), (.tmp 95)], (some (90, false)), (some 96), [91, 95]⟩,
  ⟨.un .not (.tmp 96), (some (90, false)), (some 97), [96]⟩,
  ⟨.pick (.tmp 90) (.lit (.bool true)) (.tmp 97), none, (some 98), [90, 97]⟩,
  ⟨.mv (.tmp 98), none, (some 99), [98]⟩,
  ⟨.faddr 2 (.tmp 7), (some (99, false)), (some 100), [7]⟩,
  ⟨.load none (.tmp 100), (some (99, false)), (some 101), [100]⟩,
  ⟨.mv (.tmp 8), (some (99, false)), (some 102), [8]⟩,
  ⟨.len 1 (.tmp 102), (some (99, false)), (some 103), [102]⟩,
  ⟨.bin .neq .other (.tmp 101) (.tmp 103), (some (99, false)), (some 104), [101, 103]⟩,
  ⟨.pick (.tmp 99) (.lit (.bool true)) (.tmp 104), none, (some 105), [99, 104]⟩,
  ⟨.mv (.tmp 105), none, (some 106), [105]⟩,
  ⟨.faddr 1 (.tmp 7), (some (106, false)), (some 107), [7]⟩,
  ⟨.load none (.tmp 107), (some (106, false)), (some 108), [107]⟩,
  ⟨.faddr 0 (.tmp 7), (some (106, false)), (some 109), [7]⟩,
  ⟨.load none (.tmp 109), (some (106, false)), (some 110), [109]⟩,
  ⟨.len 1 (.tmp 110), (some (106, false)), (some 111), [110]⟩,
  ⟨.bin .neq .other (.tmp 108) (.tmp 111), (some (106, false)), (some 112), [108, 111]⟩,
  ⟨.pick (.tmp 106) (.lit (.bool true)) (.tmp 112), none, (some 113), [106, 112]⟩]
def m10r14 : List MOper := [⟨.mv (.lit (.bool false)), none, (some 2), []⟩]
def m10r15 : List MOper := [⟨.load (some 3) (.tmp 7), none, (some 114), [7]⟩,
  ⟨.store 3 (.tmp 3) (.tmp 114), none, none, [3, 114]⟩]
def m10r16 : List MOper := [⟨.mv (.tmp 4), none, (some 115), [4]⟩,
  ⟨.mv (.tmp 8), none, (some 116), [8]⟩,
  ⟨.len 1 (.tmp 116), none, (some 117), [116]⟩,
  ⟨.slc 2 (.tmp 115) none (some (.tmp 117)) none, none, (some 118), [115, 117]⟩,
  ⟨.mv (.tmp 118), none, (some 4), [118]⟩]
def m10r17 : List MOper := [⟨.mv (.tmp 8), none, (some 119), [8]⟩,
  ⟨.len 1 (.tmp 119), none, (some 120), [119]⟩,
  ⟨.mv (.tmp 120), none, (some 5), [120]⟩]
def m10r18 : List MOper := [⟨.mv (.tmp 0), none, (some 30), [0]⟩,
  ⟨.mv (.tmp 6), none, (some 31), [6]⟩,
  ⟨.iaddr 4 (.tmp 30) (.tmp 31), none, (some 32), [30, 31]⟩,
  ⟨.faddr 1 (.tmp 32), none, (some 33), [32]⟩,
  ⟨.faddr 1 (.tmp 33), none, (some 34), [33]⟩,
  ⟨.load none (.tmp 34), none, (some 35), [34]⟩,
  ⟨.len 1 (.tmp 35), none, (some 36), [35]⟩,
  ⟨.bin .gtr .other (.tmp 36) (.lit (.int .i64 200)), none, (some 37), [36]⟩]
def m10r19 : List MOper := [⟨.load (some 3) (.tmp 3), none, (some 39), [3]⟩,
  ⟨.mv (.tmp 0), none, (some 40), [0]⟩,
  ⟨.mv (.tmp 6), none, (some 41), [6]⟩,
  ⟨.iaddr 4 (.tmp 40) (.tmp 41), none, (some 42), [40, 41]⟩,
  ⟨.faddr 1 (.tmp 42), none, (some 43), [42]⟩,
  ⟨.load (some 2) (.tmp 43), none, (some 44), [43]⟩,
  ⟨.call 25 [(.tmp 39), (.tmp 44)], none, (some 45), [39, 44]⟩,
  ⟨.mv (.tmp 45), none, (some 38), [45]⟩,
  ⟨.ext 0 (.tmp 38), none, (some 46), [38]⟩,
  ⟨.ext 1 (.tmp 38), none, (some 47), [38]⟩,
  ⟨.zbox [.nils, (.int .i64 0), (.int .i64 0)], none, (some 9), []⟩]
def m10r20 : List MOper := [⟨.store 3 (.tmp 9) (.tmp 46), none, none, [9, 46]⟩,
  ⟨.mv (.tmp 47), none, (some 10), [47]⟩]
def m10r21 : List MOper := [⟨.mv (.tmp 10), none, (some 48), [10]⟩,
  ⟨.bin .neq .other (.tmp 48) (.lit (.int .u8 0)), none, (some 49), [48]⟩]
def m10r22 : List MOper := [⟨.mv (.lit (.bool false)), none, (some 2), []⟩]
def m10r23 : List MOper := [⟨.load (some 3) (.tmp 9), none, (some 50), [9]⟩,
  ⟨.store 3 (.tmp 3) (.tmp 50), none, none, [3, 50]⟩]
def m10r24 : List MOper := [⟨.mv (.tmp 4), none, (some 51), [4]⟩,
  ⟨.mv (.tmp 0), none, (some 52), [0]⟩,
  ⟨.mv (.tmp 6), none, (some 53), [6]⟩,
  ⟨.iaddr 4 (.tmp 52) (.tmp 53), none, (some 54), [52, 53]⟩,
  ⟨.faddr 1 (.tmp 54), none, (some 55), [54]⟩,
  ⟨.load (some 2) (.tmp 55), none, (some 56), [55]⟩,
  ⟨.mkfrz [(.int .u8 0), .nils] 1 [(0, (.tmp 56))], none, (some 57), [56]⟩,
  ⟨.append 2 32 (.tmp 51) (.tmp 57), none, (some 58), [51, 57]⟩,
  ⟨.mv (.tmp 58), none, (some 4), [58]⟩]
def m10r25 : List MOper := [⟨.mv (.tmp 6), none, (some 22), [6]⟩,
  ⟨.bin .add .other (.tmp 22) (.lit (.int .i64 1)), none, (some 23), [22]⟩,
  ⟨.mv (.tmp 23), none, (some 6), [23]⟩]
def m10l26 : MCode := (.seq (.seq (.region m10r5 [0, 3, 4, 5, 6, 21])
  (.cond (.tmp 21)
  .skip
  (.exit 0)))
  (.seq (.block 1 (.seq (.region m10r6 [0, 3, 4, 5, 6, 29])
  (.block 2 (.seq (.region m10r7 [0, 3, 4, 5, 6, 29, 59])
  (.cond (.tmp 59)
  (.seq (.region m10r8 [0, 3, 4, 6])
  (.region m10r9 [0, 3, 4, 5, 6]))
  (.seq (.region m10r10 [0, 3, 4, 5, 6, 65])
  (.cond (.tmp 65)
  (.seq (.dregion m10r11 m10r12 [] [0, 3, 4, 5, 6, 7, 8])
  (.seq (.seq (.region m10r13 [0, 3, 4, 6, 7, 8, 113])
  (.cond (.tmp 113)
  (.seq (.region m10r14 [2])
  .ret)
  .skip))
  (.seq (.region m10r15 [0, 3, 4, 6, 8])
  (.seq (.region m10r16 [0, 3, 4, 6, 8])
  (.region m10r17 [0, 3, 4, 5, 6])))))
  (.seq (.seq (.region m10r18 [0, 3, 4, 5, 6, 37])
  (.cond (.tmp 37)
  (.exit 1)
  .skip))
  (.seq (.dregion m10r19 m10r20 [] [0, 3, 4, 5, 6, 9, 10])
  (.seq (.seq (.region m10r21 [0, 3, 4, 5, 6, 9, 49])
  (.cond (.tmp 49)
  (.seq (.region m10r22 [2])
  .ret)
  .skip))
  (.seq (.region m10r23 [0, 3, 4, 5, 6])
  (.region m10r24 [0, 3, 4, 5, 6]))))))))))))
  (.region m10r25 [0, 3, 4, 5, 6])))
def m10r27 : List MOper := [⟨.faddr 0 (.tmp 3), none, (some 122), [3]⟩,
  ⟨.load none (.tmp 122), none, (some 123), [122]⟩,
  ⟨.call 18 [(.tmp 123)], none, (some 124), [123]⟩,
  ⟨.mv (.tmp 124), none, (some 121), [124]⟩,
  ⟨.ext 0 (.tmp 121), none, (some 125), [121]⟩,
  ⟨.ext 1 (.tmp 121), none, (some 126), [121]⟩,
  ⟨.ext 2 (.tmp 121), none, (some 127), [121]⟩,
  ⟨.mv (.tmp 125), none, (some 11), [125]⟩,
  ⟨.mv (.tmp 126), none, (some 12), [126]⟩,
  ⟨.mv (.tmp 127), none, (some 13), [127]⟩]
def m10r28 : List MOper := [⟨.mv (.tmp 13), none, (some 128), [13]⟩,
  ⟨.bin .eql .other (.tmp 128) (.lit (.int .u8 0)), none, (some 129), [128]⟩,
  ⟨.mv (.tmp 129), none, (some 130), [129]⟩,
  ⟨.mv (.tmp 12), (some (130, true)), (some 131), [12]⟩,
  ⟨.faddr 0 (.tmp 3), (some (130, true)), (some 132), [3]⟩,
  ⟨.load none (.tmp 132), (some (130, true)), (some 133), [132]⟩,
  ⟨.len 1 (.tmp 133), (some (130, true)), (some 134), [133]⟩,
  ⟨.bin .eql .other (.tmp 131) (.tmp 134), (some (130, true)), (some 135), [131, 134]⟩,
  ⟨.pick (.tmp 130) (.tmp 135) (.lit (.bool false)), none, (some 136), [130, 135]⟩,
  ⟨.mv (.tmp 136), none, (some 137), [136]⟩,
  ⟨.mv (.tmp 4), (some (137, true)), (some 138), [4]⟩,
  ⟨.mv (.tmp 11), (some (137, true)), (some 139), [11]⟩,
  ⟨.call 19 [(.tmp 138), (.tmp 139)], (some (137, true)), (some 140), [138, 139]⟩,
  ⟨.pick (.tmp 137) (.tmp 140) (.lit (.bool false)), none, (some 141), [137, 140]⟩,
  ⟨.mv (.tmp 141), none, (some 142), [141]⟩,
  ⟨.call 11 [], (some (142, true)), (some 143), []⟩,
  ⟨.pick (.tmp 142) (.tmp 143) (.lit (.bool false)), none, (some 144), [142, 143]⟩,
  ⟨.mv (.tmp 144), none, (some 2), [144]⟩]
def m10 : MFunc := ⟨145, [.tmp 2],
  (.seq (.region m10r0 [0])
  (.seq (.region m10r1 [0, 3])
  (.seq (.region m10r2 [0, 3, 4])
  (.seq (.region m10r3 [0, 3, 4, 5])
  (.seq (.seq (.region m10r4 [0, 3, 4, 5, 6])
  (.block 0 (.loop [0, 3, 4, 5, 6] m10l26)))
  (.seq (.region m10r27 [3, 4, 11, 12, 13])
  (.seq (.region m10r28 [2])
  .ret)))))))⟩
def h10 : List RH := [⟨[0], 0, false, []⟩, ⟨[0, 3], 0, false, []⟩, ⟨[0, 3, 4], 0, false, []⟩, ⟨[0, 3, 4, 5], 0, false, []⟩, ⟨[0, 3, 4, 5, 6], 0, false, []⟩, ⟨[0, 3, 4, 5, 6], 0, false, []⟩, ⟨[0, 3, 4, 5, 6, 21], 0, false, []⟩, ⟨[0, 3, 4, 5, 6, 29], 0, false, []⟩, ⟨[0, 3, 4, 5, 6, 29, 59], 0, false, []⟩, ⟨[0, 3, 4, 6], 0, false, []⟩, ⟨[0, 3, 4, 5, 6], 0, false, []⟩, ⟨[0, 3, 4, 5, 6, 65], 0, false, []⟩, ⟨[0, 3, 4, 5, 6, 7, 8], 13, false, []⟩, ⟨[0, 3, 4, 6, 7, 8, 113], 0, false, []⟩, ⟨[2], 0, false, []⟩, ⟨[0, 3, 4, 6, 8], 0, false, []⟩, ⟨[0, 3, 4, 6, 8], 0, false, []⟩, ⟨[0, 3, 4, 5, 6], 0, false, []⟩, ⟨[0, 3, 4, 5, 6, 37], 0, false, []⟩, ⟨[0, 3, 4, 5, 6, 9, 10], 11, false, []⟩, ⟨[0, 3, 4, 5, 6, 9, 49], 0, false, []⟩, ⟨[2], 0, false, []⟩, ⟨[0, 3, 4, 5, 6], 0, false, []⟩, ⟨[0, 3, 4, 5, 6], 0, false, []⟩, ⟨[0, 3, 4, 5, 6], 0, false, []⟩, ⟨[3, 4, 11, 12, 13], 0, false, []⟩, ⟨[2], 0, false, []⟩]
theorem m10_ok : cmpFn Try.prog 10 h10 = some m10 := by kernel_rfl

end Go.Ab.Try.S
