/-
  The translated functions of this claim, printed by a program of ours (gen.sh), with the kernel's word that they are the translation.
  Conditions: none.
-/
import Derived.Test.YthpmmdlhoaonaaaProg
import Derived.Test.YthpmmdlhoaonaaaAbEval
import Derived.KernelRfl
namespace Go.Ab.Try.W
open Go.Proofs
/- dialtone/dialtoneref20.One -/
def m35r0 : List MOper := [⟨.zbox [(.int .u8 0), .nils], none, (some 4), []⟩,
  ⟨.mv (.lit (.int .i64 0)), none, (some 5), []⟩,
  ⟨.mv (.lit (.int .u8 0)), none, (some 6), []⟩]
def m35r1 : List MOper := [⟨.mv (.tmp 1), none, (some 12), [1]⟩,
  ⟨.bin .geq .other (.tmp 12) (.lit (.int .i64 1048576)), none, (some 13), [12]⟩,
  ⟨.mv (.tmp 13), none, (some 14), [13]⟩,
  ⟨.mv (.tmp 0), (some (14, false)), (some 15), [0]⟩,
  ⟨.mv (.tmp 1), (some (14, false)), (some 16), [1]⟩,
  ⟨.call 38 [(.tmp 15), (.tmp 16)], (some (14, false)), (some 17), [15, 16]⟩,
  ⟨.pick (.tmp 14) (.lit (.bool true)) (.tmp 17), none, (some 18), [14, 17]⟩]
def m35r2 : List MOper := [⟨.build [(.int .u8 0), .nils] [], none, (some 19), []⟩,
  ⟨.store 2 (.tmp 4) (.tmp 19), none, none, [4, 19]⟩,
  ⟨.mv (.lit (.int .i64 0)), none, (some 5), []⟩,
  ⟨.mv (.lit (.int .u8 5)), none, (some 6), []⟩]
def m35r3 : List MOper := [⟨.mv (.tmp 0), none, (some 20), [0]⟩,
  ⟨.len 1 (.tmp 20), none, (some 21), [20]⟩,
  ⟨.bin .lss .other (.tmp 21) (.lit (.int .i64 14)), none, (some 22), [21]⟩]
def m35r4 : List MOper := [⟨.build [(.int .u8 0), .nils] [], none, (some 23), []⟩,
  ⟨.store 2 (.tmp 4) (.tmp 23), none, none, [4, 23]⟩,
  ⟨.mv (.lit (.int .i64 0)), none, (some 5), []⟩,
  ⟨.mv (.lit (.int .u8 6)), none, (some 6), []⟩]
def m35r5 : List MOper := [⟨.mv (.tmp 0), none, (some 24), [0]⟩,
  ⟨.iaddr 1 (.tmp 24) (.lit (.int .i64 6)), none, (some 25), [24]⟩,
  ⟨.load none (.tmp 25), none, (some 26), [25]⟩,
  ⟨.conv .i64 (.tmp 26), none, (some 27), [26]⟩,
  ⟨.bin .mul .other (.lit (.int .i64 256)) (.tmp 27), none, (some 28), [27]⟩,
  ⟨.mv (.tmp 0), none, (some 29), [0]⟩,
  ⟨.iaddr 1 (.tmp 29) (.lit (.int .i64 7)), none, (some 30), [29]⟩,
  ⟨.load none (.tmp 30), none, (some 31), [30]⟩,
  ⟨.conv .i64 (.tmp 31), none, (some 32), [31]⟩]
def m35r6 : List MOper := [⟨.bin .add .other (.tmp 28) (.tmp 32), none, (some 33), [28, 32]⟩,
  ⟨.mv (.tmp 33), none, (some 7), [33]⟩]
def m35r7 : List MOper := [⟨.mv (.tmp 0), none, (some 34), [0]⟩,
  ⟨.len 1 (.tmp 34), none, (some 35), [34]⟩,
  ⟨.mv (.tmp 7), none, (some 36), [7]⟩,
  ⟨.bin .add .other (.lit (.int .i64 14)) (.tmp 36), none, (some 37), [36]⟩,
  ⟨.bin .lss .other (.tmp 35) (.tmp 37), none, (some 38), [35, 37]⟩]
def m35r8 : List MOper := [⟨.build [(.int .u8 0), .nils] [], none, (some 39), []⟩,
  ⟨.store 2 (.tmp 4) (.tmp 39), none, none, [4, 39]⟩,
  ⟨.mv (.lit (.int .i64 0)), none, (some 5), []⟩,
  ⟨.mv (.lit (.int .u8 6)), none, (some 6), []⟩]
def m35r9 : List MOper := [⟨.zbox [(.int .u8 0), .nils], none, (some 8), []⟩]
def m35r10 : List MOper := [⟨.mv (.tmp 0), none, (some 40), [0]⟩,
  ⟨.iaddr 1 (.tmp 40) (.lit (.int .i64 1)), none, (some 41), [40]⟩,
  ⟨.load none (.tmp 41), none, (some 42), [41]⟩,
  ⟨.faddr 0 (.tmp 8), none, (some 43), [8]⟩,
  ⟨.store 1 (.tmp 43) (.tmp 42), none, none, [43, 42]⟩]
def m35r11 : List MOper := [⟨.faddr 1 (.tmp 8), none, (some 44), [8]⟩,
  ⟨.load none (.tmp 44), none, (some 45), [44]⟩,
  ⟨.mv (.tmp 0), none, (some 46), [0]⟩]
def m35r12 : List MOper := [⟨.mv (.tmp 7), none, (some 47), [7]⟩,
  ⟨.bin .add .other (.lit (.int .i64 10)) (.tmp 47), none, (some 48), [47]⟩,
  ⟨.slc 1 (.tmp 46) (some (.lit (.int .i64 10))) (some (.tmp 48)) none, none, (some 49), [46, 48]⟩,
  ⟨.append 1 1 (.tmp 45) (.tmp 49), none, (some 50), [45, 49]⟩,
  ⟨.faddr 1 (.tmp 8), none, (some 51), [8]⟩,
  ⟨.store 1 (.tmp 51) (.tmp 50), none, none, [51, 50]⟩]
def m35r13 : List MOper := [⟨.load none (.tmp 44), none, (some 45), [44]⟩]
def m35r14 : List MOper := [⟨.load none (.tmp 44), none, (some 45), [44]⟩]
def m35r15 : List MOper := [⟨.load none (.tmp 44), none, (some 45), [44]⟩]
def m35r16 : List MOper := [⟨.load none (.tmp 44), none, (some 45), [44]⟩]
def m35r17 : List MOper := [⟨.mv (.tmp 1), none, (some 53), [1]⟩,
  ⟨.load (some 2) (.tmp 8), none, (some 54), [8]⟩,
  ⟨.call 13 [(.tmp 53), (.tmp 54)], none, (some 55), [53, 54]⟩,
  ⟨.mv (.tmp 55), none, (some 52), [55]⟩,
  ⟨.ext 0 (.tmp 52), none, (some 56), [52]⟩,
  ⟨.ext 1 (.tmp 52), none, (some 57), [52]⟩,
  ⟨.mv (.tmp 56), none, (some 9), [56]⟩,
  ⟨.mv (.tmp 57), none, (some 10), [57]⟩]
def m35r18 : List MOper := [⟨.mv (.lit (.int .i64 0)), none, (some 11), []⟩]
def m35r19 : List MOper := [⟨.mv (.tmp 11), none, (some 58), [11]⟩,
  ⟨.mv (.tmp 7), none, (some 59), [7]⟩,
  ⟨.bin .add .other (.lit (.int .i64 14)) (.tmp 59), none, (some 60), [59]⟩,
  ⟨.bin .lss .other (.tmp 58) (.tmp 60), none, (some 61), [58, 60]⟩]
def m35r20 : List MOper := [⟨.mv (.tmp 0), none, (some 64), [0]⟩,
  ⟨.mv (.tmp 11), none, (some 65), [11]⟩,
  ⟨.iaddr 1 (.tmp 64) (.tmp 65), none, (some 66), [64, 65]⟩,
  ⟨.load none (.tmp 66), none, (some 67), [66]⟩,
  ⟨.mv (.tmp 9), none, (some 68), [9]⟩,
  ⟨.mv (.tmp 11), none, (some 69), [11]⟩,
  ⟨.iaddr 1 (.tmp 68) (.tmp 69), none, (some 70), [68, 69]⟩,
  ⟨.load none (.tmp 70), none, (some 71), [70]⟩]
def m35r21 : List MOper := [⟨.bin .neq .other (.tmp 67) (.tmp 71), none, (some 72), [67, 71]⟩]
def m35r22 : List MOper := [⟨.build [(.int .u8 0), .nils] [], none, (some 73), []⟩,
  ⟨.store 2 (.tmp 4) (.tmp 73), none, none, [4, 73]⟩,
  ⟨.mv (.lit (.int .i64 0)), none, (some 5), []⟩,
  ⟨.mv (.lit (.int .u8 11)), none, (some 6), []⟩]
def m35r23 : List MOper := [⟨.mv (.tmp 11), none, (some 62), [11]⟩,
  ⟨.bin .add .other (.tmp 62) (.lit (.int .i64 1)), none, (some 63), [62]⟩,
  ⟨.mv (.tmp 63), none, (some 11), [63]⟩]
def m35l24 : MCode := (.seq (.seq (.region m35r19 [0, 4, 7, 8, 9, 11, 61])
  (.cond (.tmp 61)
  .skip
  (.exit 0)))
  (.seq (.block 1 (.seq (.dregion m35r20 m35r21 [] [0, 4, 7, 8, 9, 11, 72])
  (.cond (.tmp 72)
  (.seq (.region m35r22 [4, 5, 6])
  .ret)
  .skip)))
  (.region m35r23 [0, 4, 7, 8, 9, 11])))
def m35r25 : List MOper := [⟨.load (some 2) (.tmp 8), none, (some 74), [8]⟩,
  ⟨.mv (.tmp 7), none, (some 75), [7]⟩,
  ⟨.bin .add .other (.lit (.int .i64 14)) (.tmp 75), none, (some 76), [75]⟩,
  ⟨.store 2 (.tmp 4) (.tmp 74), none, none, [4, 74]⟩,
  ⟨.mv (.tmp 76), none, (some 5), [76]⟩,
  ⟨.mv (.lit (.int .u8 0)), none, (some 6), []⟩]
def m35 : MFunc := ⟨77, [.cell 4 (some 2), .tmp 5, .tmp 6],
  (.seq (.region m35r0 [0, 1, 4])
  (.seq (.seq (.region m35r1 [0, 1, 4, 18])
  (.cond (.tmp 18)
  (.seq (.region m35r2 [4, 5, 6])
  .ret)
  .skip))
  (.seq (.seq (.region m35r3 [0, 1, 4, 22])
  (.cond (.tmp 22)
  (.seq (.region m35r4 [4, 5, 6])
  .ret)
  .skip))
  (.seq (.dregion m35r5 m35r6 [] [0, 1, 4, 7])
  (.seq (.seq (.region m35r7 [0, 1, 4, 7, 38])
  (.cond (.tmp 38)
  (.seq (.region m35r8 [4, 5, 6])
  .ret)
  .skip))
  (.seq (.region m35r9 [0, 1, 4, 7, 8])
  (.seq (.region m35r10 [0, 1, 4, 7, 8])
  (.seq (.dregion m35r11 m35r12 [m35r13, m35r14, m35r15, m35r16, [], [], []] [0, 1, 4, 7, 8])
  (.seq (.seq .conv
  (.region m35r17 [0, 4, 7, 8, 9]))
  (.seq (.seq (.region m35r18 [0, 4, 7, 8, 9, 11])
  (.block 0 (.loop [0, 4, 7, 8, 9, 11] m35l24)))
  (.seq (.region m35r25 [4, 5, 6])
  .ret)))))))))))⟩
def h35 : List RH := [⟨[0, 1, 4], 0, false, []⟩, ⟨[0, 1, 4, 18], 0, false, []⟩, ⟨[4, 5, 6], 0, false, []⟩, ⟨[0, 1, 4, 22], 0, false, []⟩, ⟨[4, 5, 6], 0, false, []⟩, ⟨[0, 1, 4, 7], 9, false, []⟩, ⟨[0, 1, 4, 7, 38], 0, false, []⟩, ⟨[4, 5, 6], 0, false, []⟩, ⟨[0, 1, 4, 7, 8], 0, false, []⟩, ⟨[0, 1, 4, 7, 8], 0, false, []⟩, ⟨[0, 1, 4, 7, 8], 3, false, []⟩, ⟨[0, 4, 7, 8, 9], 0, true, []⟩, ⟨[0, 4, 7, 8, 9, 11], 0, false, []⟩, ⟨[0, 4, 7, 8, 9, 11], 0, false, []⟩, ⟨[0, 4, 7, 8, 9, 11, 61], 0, false, []⟩, ⟨[0, 4, 7, 8, 9, 11, 72], 8, false, []⟩, ⟨[4, 5, 6], 0, false, []⟩, ⟨[0, 4, 7, 8, 9, 11], 0, false, []⟩, ⟨[4, 5, 6], 0, false, []⟩]
theorem m35_ok : cmpFn Try.prog 35 h35 = some m35 := by kernel_rfl

end Go.Ab.Try.W
