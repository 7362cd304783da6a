/-
  The translated functions of this claim, printed by a program of ours (gen.sh), with the kernel's word that they are the translation.
  Conditions: none.
-/
import Derived.Test.YthpmmdlhoaonaaaProg
import Derived.Test.YthpmmdlhoaonaaaAbEval
import Derived.KernelRfl
namespace Go.Ab.Try.S
open Go.Proofs
/- dialtone/dialtonelaw20.lives -/
def m11r0 : List MOper := [⟨.mv (.lit (.bool false)), none, (some 0), []⟩]
def m11r1 : List MOper := [⟨.build [.nils, (.int .i64 0), (.int .i64 0)] [], none, (some 12), []⟩,
  ⟨.mkslice [(.int .u8 0)] 1 [(0, (.lit (.int .u8 65)))], none, (some 13), []⟩,
  ⟨.build [(.int .u8 0), .nils] [(0, 1, (.lit (.int .u8 5))), (1, 1, (.tmp 13))], none, (some 14), [13]⟩,
  ⟨.call 25 [(.tmp 12), (.tmp 14)], none, (some 15), [12, 14]⟩,
  ⟨.mv (.tmp 15), none, (some 11), [15]⟩,
  ⟨.ext 0 (.tmp 11), none, (some 16), [11]⟩,
  ⟨.ext 1 (.tmp 11), none, (some 17), [11]⟩,
  ⟨.zbox [.nils, (.int .i64 0), (.int .i64 0)], none, (some 1), []⟩,
  ⟨.store 3 (.tmp 1) (.tmp 16), none, none, [1, 16]⟩,
  ⟨.mv (.tmp 17), none, (some 2), [17]⟩]
def m11r2 : List MOper := [⟨.load (some 3) (.tmp 1), none, (some 19), [1]⟩,
  ⟨.build [(.int .u8 0), .nils] [(0, 1, (.lit (.int .u8 6)))], none, (some 20), []⟩,
  ⟨.call 25 [(.tmp 19), (.tmp 20)], none, (some 21), [19, 20]⟩,
  ⟨.mv (.tmp 21), none, (some 18), [21]⟩,
  ⟨.ext 0 (.tmp 18), none, (some 22), [18]⟩,
  ⟨.ext 1 (.tmp 18), none, (some 23), [18]⟩,
  ⟨.zbox [.nils, (.int .i64 0), (.int .i64 0)], none, (some 3), []⟩,
  ⟨.store 3 (.tmp 3) (.tmp 22), none, none, [3, 22]⟩,
  ⟨.mv (.tmp 23), none, (some 4), [23]⟩]
def m11r3 : List MOper := [⟨.faddr 0 (.tmp 3), none, (some 25), [3]⟩,
  ⟨.load none (.tmp 25), none, (some 26), [25]⟩,
  ⟨.call 18 [(.tmp 26)], none, (some 27), [26]⟩,
  ⟨.mv (.tmp 27), none, (some 24), [27]⟩,
  ⟨.ext 0 (.tmp 24), none, (some 28), [24]⟩,
  ⟨.ext 1 (.tmp 24), none, (some 29), [24]⟩,
  ⟨.ext 2 (.tmp 24), none, (some 30), [24]⟩,
  ⟨.mv (.tmp 28), none, (some 5), [28]⟩,
  ⟨.mv (.tmp 29), none, (some 6), [29]⟩,
  ⟨.mv (.tmp 30), none, (some 7), [30]⟩]
def m11r4 : List MOper := [⟨.mkfrz [(.int .u8 0)] 6 [(0, (.lit (.int .u8 167))), (1, (.lit (.int .u8 5))), (2, (.lit (.int .u8 0))), (3, (.lit (.int .u8 0))), (4, (.lit (.int .u8 0))), (5, (.lit (.int .u8 1)))], none, (some 32), []⟩,
  ⟨.call 18 [(.tmp 32)], none, (some 33), [32]⟩,
  ⟨.mv (.tmp 33), none, (some 31), [33]⟩,
  ⟨.ext 0 (.tmp 31), none, (some 34), [31]⟩,
  ⟨.ext 1 (.tmp 31), none, (some 35), [31]⟩,
  ⟨.ext 2 (.tmp 31), none, (some 36), [31]⟩,
  ⟨.mv (.tmp 34), none, (some 8), [34]⟩,
  ⟨.mv (.tmp 35), none, (some 9), [35]⟩,
  ⟨.mv (.tmp 36), none, (some 10), [36]⟩]
def m11r5 : List MOper := [⟨.mkslice [(.int .u8 0)] 9 [(0, (.lit (.int .u8 49))), (1, (.lit (.int .u8 50))), (2, (.lit (.int .u8 51))), (3, (.lit (.int .u8 52))), (4, (.lit (.int .u8 53))), (5, (.lit (.int .u8 54))), (6, (.lit (.int .u8 55))), (7, (.lit (.int .u8 56))), (8, (.lit (.int .u8 57)))], none, (some 37), []⟩,
  ⟨.slid (.tmp 37), none, (some 38), [37]⟩,
  ⟨.call 14 [(.tmp 38)], none, (some 39), [38]⟩,
  ⟨.bin .eql .other (.tmp 39) (.lit (.int .u32 3421780262)), none, (some 40), [39]⟩,
  ⟨.mv (.tmp 40), none, (some 41), [40]⟩,
  ⟨.mv (.tmp 2), (some (41, true)), (some 42), [2]⟩,
  ⟨.bin .eql .other (.tmp 42) (.lit (.int .u8 0)), (some (41, true)), (some 43), [42]⟩,
  ⟨.pick (.tmp 41) (.tmp 43) (.lit (.bool false)), none, (some 44), [41, 43]⟩,
  ⟨.mv (.tmp 44), none, (some 45), [44]⟩,
  ⟨.mv (.tmp 4), (some (45, true)), (some 46), [4]⟩,
  ⟨.bin .eql .other (.tmp 46) (.lit (.int .u8 0)), (some (45, true)), (some 47), [46]⟩,
  ⟨.pick (.tmp 45) (.tmp 47) (.lit (.bool false)), none, (some 48), [45, 47]⟩,
  ⟨.mv (.tmp 48), none, (some 49), [48]⟩,
  ⟨.mv (.tmp 7), (some (49, true)), (some 50), [7]⟩,
  ⟨.bin .eql .other (.tmp 50) (.lit (.int .u8 0)), (some (49, true)), (some 51), [50]⟩,
  ⟨.pick (.tmp 49) (.tmp 51) (.lit (.bool false)), none, (some 52), [49, 51]⟩,
  ⟨.mv (.tmp 52), none, (some 53), [52]⟩,
  ⟨.mv (.tmp 6), (some (53, true)), (some 54), [6]⟩,
  ⟨.bin .eql .other (.tmp 54) (.lit (.int .i64 29)), (some (53, true)), (some 55), [54]⟩,
  ⟨.pick (.tmp 53) (.tmp 55) (.lit (.bool false)), none, (some 56), [53, 55]⟩,
  ⟨.mv (.tmp 56), none, (some 57), [56]⟩,
  ⟨.mv (.tmp 5), (some (57, true)), (some 58), [5]⟩,
  ⟨.mkslice [(.int .u8 0)] 1 [(0, (.lit (.int .u8 65)))], (some (57, true)), (some 59), []⟩,
  ⟨.build [(.int .u8 0), .nils] [(0, 1, (.lit (.int .u8 5))), (1, 1, (.tmp 59))], (some (57, true)), (some 60), [59]⟩,
  ⟨.build [(.int .u8 0), .nils] [(0, 1, (.lit (.int .u8 6)))], (some (57, true)), (some 61), []⟩,
  ⟨.mkfrz [(.int .u8 0), .nils] 2 [(0, (.tmp 60)), (1, (.tmp 61))], (some (57, true)), (some 62), [60, 61]⟩,
  ⟨.call 19 [(.tmp 58), (.tmp 62)], (some (57, true)), (some 63), [58, 62]⟩,
  ⟨.pick (.tmp 57) (.tmp 63) (.lit (.bool false)), none, (some 64), [57, 63]⟩,
  ⟨.mv (.tmp 64), none, (some 65), [64]⟩,
  ⟨.mv (.tmp 10), (some (65, true)), (some 66), [10]⟩,
  ⟨.bin .eql .other (.tmp 66) (.lit (.int .u8 5)), (some (65, true)), (some 67), [66]⟩,
  ⟨.pick (.tmp 65) (.tmp 67) (.lit (.bool false)), none, (some 68), [65, 67]⟩,
  ⟨.mv (.tmp 68), none, (some 0), [68]⟩]
def m11 : MFunc := ⟨69, [.tmp 0],
  (.seq (.region m11r0 [])
  (.seq (.region m11r1 [1, 2])
  (.seq (.region m11r2 [2, 3, 4])
  (.seq (.region m11r3 [2, 4, 5, 6, 7])
  (.seq (.region m11r4 [2, 4, 5, 6, 7, 10])
  (.seq (.region m11r5 [0])
  .ret))))))⟩
def h11 : List RH := [⟨[], 0, false, []⟩, ⟨[1, 2], 0, false, []⟩, ⟨[2, 3, 4], 0, false, []⟩, ⟨[2, 4, 5, 6, 7], 0, false, []⟩, ⟨[2, 4, 5, 6, 7, 10], 0, false, []⟩, ⟨[0], 0, false, []⟩]
theorem m11_ok : cmpFn Try.prog 11 h11 = some m11 := by kernel_rfl

/- dialtone/journal.Encode -/
def m12r0 : List MOper := [⟨.box 2 (.tmp 1), none, (some 3), [1]⟩,
  ⟨.mv (.lit .nils), none, (some 4), []⟩,
  ⟨.mv (.lit (.int .u8 0)), none, (some 5), []⟩]
def m12r1 : List MOper := [⟨.mv (.tmp 0), none, (some 8), [0]⟩,
  ⟨.bin .lss .other (.tmp 8) (.lit (.int .i64 0)), none, (some 9), [8]⟩,
  ⟨.mv (.tmp 9), none, (some 10), [9]⟩,
  ⟨.mv (.tmp 0), (some (10, false)), (some 11), [0]⟩,
  ⟨.bin .geq .other (.tmp 11) (.lit (.int .i64 1048576)), (some (10, false)), (some 12), [11]⟩,
  ⟨.pick (.tmp 10) (.lit (.bool true)) (.tmp 12), none, (some 13), [10, 12]⟩]
def m12r2 : List MOper := [⟨.mv (.lit .nils), none, (some 4), []⟩,
  ⟨.mv (.lit (.int .u8 3)), none, (some 5), []⟩]
def m12r3 : List MOper := [⟨.faddr 1 (.tmp 3), none, (some 14), [3]⟩,
  ⟨.load none (.tmp 14), none, (some 15), [14]⟩,
  ⟨.len 1 (.tmp 15), none, (some 16), [15]⟩,
  ⟨.bin .gtr .other (.tmp 16) (.lit (.int .i64 4096)), none, (some 17), [16]⟩]
def m12r4 : List MOper := [⟨.mv (.lit .nils), none, (some 4), []⟩,
  ⟨.mv (.lit (.int .u8 4)), none, (some 5), []⟩]
def m12r5 : List MOper := [⟨.faddr 1 (.tmp 3), none, (some 18), [3]⟩,
  ⟨.load none (.tmp 18), none, (some 19), [18]⟩,
  ⟨.len 1 (.tmp 19), none, (some 20), [19]⟩,
  ⟨.conv .u32 (.tmp 20), none, (some 21), [20]⟩,
  ⟨.mv (.tmp 21), none, (some 6), [21]⟩]
def m12r6 : List MOper := [⟨.faddr 1 (.tmp 3), none, (some 22), [3]⟩,
  ⟨.load none (.tmp 22), none, (some 23), [22]⟩,
  ⟨.len 1 (.tmp 23), none, (some 24), [23]⟩,
  ⟨.bin .add .other (.lit (.int .i64 10)) (.tmp 24), none, (some 25), [24]⟩,
  ⟨.bin .add .other (.tmp 25) (.lit (.int .i64 4)), none, (some 26), [25]⟩,
  ⟨.make [(.int .u8 0)] 1 (.lit (.int .i64 0)) (.tmp 26), none, (some 27), [26]⟩,
  ⟨.mv (.tmp 27), none, (some 7), [27]⟩]
def m12r7 : List MOper := [⟨.mv (.tmp 7), none, (some 28), [7]⟩,
  ⟨.faddr 0 (.tmp 3), none, (some 29), [3]⟩,
  ⟨.load none (.tmp 29), none, (some 30), [29]⟩,
  ⟨.mkfrz [(.int .u8 0)] 2 [(0, (.lit (.int .u8 167))), (1, (.tmp 30))], none, (some 31), [30]⟩,
  ⟨.append 1 1 (.tmp 28) (.tmp 31), none, (some 32), [28, 31]⟩,
  ⟨.mv (.tmp 32), none, (some 7), [32]⟩]
def m12r8 : List MOper := [⟨.mv (.tmp 7), none, (some 33), [7]⟩,
  ⟨.mv (.tmp 0), none, (some 34), [0]⟩,
  ⟨.conv .u32 (.tmp 34), none, (some 35), [34]⟩,
  ⟨.mkfrz [(.int .u32 0)] 1 [(0, (.tmp 35))], none, (some 36), [35]⟩,
  ⟨.call 32 [(.tmp 33), (.lit (.int .i64 4)), (.tmp 36)], none, (some 37), [33, 36]⟩,
  ⟨.mv (.tmp 37), none, (some 7), [37]⟩]
def m12r9 : List MOper := [⟨.mv (.tmp 7), none, (some 38), [7]⟩,
  ⟨.mv (.tmp 6), none, (some 39), [6]⟩,
  ⟨.mv (.tmp 6), none, (some 40), [6]⟩,
  ⟨.bin .sub .other (.lit (.int .u32 65535)) (.tmp 40), none, (some 41), [40]⟩,
  ⟨.mkfrz [(.int .u32 0)] 2 [(0, (.tmp 39)), (1, (.tmp 41))], none, (some 42), [39, 41]⟩,
  ⟨.call 32 [(.tmp 38), (.lit (.int .i64 2)), (.tmp 42)], none, (some 43), [38, 42]⟩,
  ⟨.mv (.tmp 43), none, (some 7), [43]⟩]
def m12r10 : List MOper := [⟨.mv (.tmp 7), none, (some 44), [7]⟩,
  ⟨.faddr 1 (.tmp 3), none, (some 45), [3]⟩,
  ⟨.load none (.tmp 45), none, (some 46), [45]⟩,
  ⟨.append 1 1 (.tmp 44) (.tmp 46), none, (some 47), [44, 46]⟩,
  ⟨.mv (.tmp 47), none, (some 7), [47]⟩]
def m12r11 : List MOper := [⟨.mv (.tmp 7), none, (some 48), [7]⟩,
  ⟨.mv (.tmp 7), none, (some 49), [7]⟩,
  ⟨.call 14 [(.tmp 49)], none, (some 50), [49]⟩,
  ⟨.mkfrz [(.int .u32 0)] 1 [(0, (.tmp 50))], none, (some 51), [50]⟩,
  ⟨.call 32 [(.tmp 48), (.lit (.int .i64 4)), (.tmp 51)], none, (some 52), [48, 51]⟩,
  ⟨.mv (.tmp 52), none, (some 4), [52]⟩,
  ⟨.mv (.lit (.int .u8 0)), none, (some 5), []⟩]
def m12 : MFunc := ⟨53, [.tmp 4, .tmp 5],
  (.seq (.region m12r0 [0, 3])
  (.seq (.seq (.region m12r1 [0, 3, 13])
  (.cond (.tmp 13)
  (.seq (.region m12r2 [4, 5])
  .ret)
  .skip))
  (.seq (.seq (.region m12r3 [0, 3, 17])
  (.cond (.tmp 17)
  (.seq (.region m12r4 [4, 5])
  .ret)
  .skip))
  (.seq (.region m12r5 [0, 3, 6])
  (.seq (.region m12r6 [0, 3, 6, 7])
  (.seq (.region m12r7 [0, 3, 6, 7])
  (.seq (.region m12r8 [3, 6, 7])
  (.seq (.region m12r9 [3, 7])
  (.seq (.region m12r10 [7])
  (.seq (.region m12r11 [4, 5])
  .ret))))))))))⟩
def h12 : List RH := [⟨[0, 3], 0, false, []⟩, ⟨[0, 3, 13], 0, false, []⟩, ⟨[4, 5], 0, false, []⟩, ⟨[0, 3, 17], 0, false, []⟩, ⟨[4, 5], 0, false, []⟩, ⟨[0, 3, 6], 0, false, []⟩, ⟨[0, 3, 6, 7], 0, false, []⟩, ⟨[0, 3, 6, 7], 0, false, []⟩, ⟨[3, 6, 7], 0, false, []⟩, ⟨[3, 7], 0, false, []⟩, ⟨[7], 0, false, []⟩, ⟨[4, 5], 0, false, []⟩]
theorem m12_ok : cmpFn Try.prog 12 h12 = some m12 := by kernel_rfl

/- dialtone/dialtoneref20.Encode -/
def m13r0 : List MOper := [⟨.box 2 (.tmp 1), none, (some 3), [1]⟩,
  ⟨.mv (.lit .nils), none, (some 4), []⟩,
  ⟨.mv (.lit (.int .u8 0)), none, (some 5), []⟩]
def m13r1 : List MOper := [⟨.mv (.tmp 0), none, (some 7), [0]⟩,
  ⟨.bin .lss .other (.tmp 7) (.lit (.int .i64 0)), none, (some 8), [7]⟩,
  ⟨.mv (.tmp 8), none, (some 9), [8]⟩,
  ⟨.mv (.tmp 0), (some (9, false)), (some 10), [0]⟩,
  ⟨.bin .geq .other (.tmp 10) (.lit (.int .i64 1048576)), (some (9, false)), (some 11), [10]⟩,
  ⟨.pick (.tmp 9) (.lit (.bool true)) (.tmp 11), none, (some 12), [9, 11]⟩]
def m13r2 : List MOper := [⟨.mv (.lit .nils), none, (some 4), []⟩,
  ⟨.mv (.lit (.int .u8 3)), none, (some 5), []⟩]
def m13r3 : List MOper := [⟨.faddr 1 (.tmp 3), none, (some 13), [3]⟩,
  ⟨.load none (.tmp 13), none, (some 14), [13]⟩,
  ⟨.len 1 (.tmp 14), none, (some 15), [14]⟩,
  ⟨.bin .gtr .other (.tmp 15) (.lit (.int .i64 4096)), none, (some 16), [15]⟩]
def m13r4 : List MOper := [⟨.mv (.lit .nils), none, (some 4), []⟩,
  ⟨.mv (.lit (.int .u8 4)), none, (some 5), []⟩]
def m13r5 : List MOper := [⟨.faddr 0 (.tmp 3), none, (some 17), [3]⟩,
  ⟨.load none (.tmp 17), none, (some 18), [17]⟩,
  ⟨.mkslice [(.int .u8 0)] 2 [(0, (.lit (.int .u8 167))), (1, (.tmp 18))], none, (some 19), [18]⟩,
  ⟨.mv (.tmp 19), none, (some 6), [19]⟩]
def m13r6 : List MOper := [⟨.mv (.tmp 6), none, (some 20), [6]⟩,
  ⟨.mv (.tmp 0), none, (some 21), [0]⟩,
  ⟨.call 33 [(.tmp 21), (.lit (.int .i64 4))], none, (some 22), [21]⟩,
  ⟨.append 1 1 (.tmp 20) (.tmp 22), none, (some 23), [20, 22]⟩,
  ⟨.mv (.tmp 23), none, (some 6), [23]⟩]
def m13r7 : List MOper := [⟨.mv (.tmp 6), none, (some 24), [6]⟩,
  ⟨.faddr 1 (.tmp 3), none, (some 25), [3]⟩,
  ⟨.load none (.tmp 25), none, (some 26), [25]⟩,
  ⟨.len 1 (.tmp 26), none, (some 27), [26]⟩,
  ⟨.call 33 [(.tmp 27), (.lit (.int .i64 2))], none, (some 28), [27]⟩,
  ⟨.append 1 1 (.tmp 24) (.tmp 28), none, (some 29), [24, 28]⟩,
  ⟨.mv (.tmp 29), none, (some 6), [29]⟩]
def m13r8 : List MOper := [⟨.mv (.tmp 6), none, (some 30), [6]⟩,
  ⟨.faddr 1 (.tmp 3), none, (some 31), [3]⟩,
  ⟨.load none (.tmp 31), none, (some 32), [31]⟩,
  ⟨.len 1 (.tmp 32), none, (some 33), [32]⟩,
  ⟨.bin .sub .other (.lit (.int .i64 65535)) (.tmp 33), none, (some 34), [33]⟩,
  ⟨.call 33 [(.tmp 34), (.lit (.int .i64 2))], none, (some 35), [34]⟩,
  ⟨.append 1 1 (.tmp 30) (.tmp 35), none, (some 36), [30, 35]⟩,
  ⟨.mv (.tmp 36), none, (some 6), [36]⟩]
def m13r9 : List MOper := [⟨.mv (.tmp 6), none, (some 37), [6]⟩,
  ⟨.faddr 1 (.tmp 3), none, (some 38), [3]⟩,
  ⟨.load none (.tmp 38), none, (some 39), [38]⟩,
  ⟨.append 1 1 (.tmp 37) (.tmp 39), none, (some 40), [37, 39]⟩,
  ⟨.mv (.tmp 40), none, (some 6), [40]⟩]
def m13r10 : List MOper := [⟨.mv (.tmp 6), none, (some 41), [6]⟩,
  ⟨.mv (.tmp 6), none, (some 42), [6]⟩,
  ⟨.call 15 [(.tmp 42)], none, (some 43), [42]⟩,
  ⟨.conv .i64 (.tmp 43), none, (some 44), [43]⟩,
  ⟨.call 33 [(.tmp 44), (.lit (.int .i64 4))], none, (some 45), [44]⟩,
  ⟨.append 1 1 (.tmp 41) (.tmp 45), none, (some 46), [41, 45]⟩,
  ⟨.mv (.tmp 46), none, (some 4), [46]⟩,
  ⟨.mv (.lit (.int .u8 0)), none, (some 5), []⟩]
def m13 : MFunc := ⟨47, [.tmp 4, .tmp 5],
  (.seq (.region m13r0 [0, 3])
  (.seq (.seq (.region m13r1 [0, 3, 12])
  (.cond (.tmp 12)
  (.seq (.region m13r2 [4, 5])
  .ret)
  .skip))
  (.seq (.seq (.region m13r3 [0, 3, 16])
  (.cond (.tmp 16)
  (.seq (.region m13r4 [4, 5])
  .ret)
  .skip))
  (.seq (.region m13r5 [0, 3, 6])
  (.seq (.region m13r6 [3, 6])
  (.seq (.region m13r7 [3, 6])
  (.seq (.region m13r8 [3, 6])
  (.seq (.region m13r9 [6])
  (.seq (.region m13r10 [4, 5])
  .ret)))))))))⟩
def h13 : List RH := [⟨[0, 3], 0, false, []⟩, ⟨[0, 3, 12], 0, false, []⟩, ⟨[4, 5], 0, false, []⟩, ⟨[0, 3, 16], 0, false, []⟩, ⟨[4, 5], 0, false, []⟩, ⟨[0, 3, 6], 0, false, []⟩, ⟨[3, 6], 0, false, []⟩, ⟨[3, 6], 0, false, []⟩, ⟨[3, 6], 0, false, []⟩, ⟨[6], 0, false, []⟩, ⟨[4, 5], 0, false, []⟩]
theorem m13_ok : cmpFn Try.prog 13 h13 = some m13 := by kernel_rfl

/- dialtone/journal.Check -/
def m14r0 : List MOper := [⟨.mv (.lit (.int .u32 0)), none, (some 2), []⟩]
def m14r1 : List MOper := [⟨.mv (.lit (.int .u32 4294967295)), none, (some 3), []⟩]
def m14r2 : List MOper := [⟨.mv (.tmp 0), none, (some 7), [0]⟩,
  ⟨.len 1 (.tmp 7), none, (some 8), [7]⟩,
  ⟨.mv (.lit (.int .i64 0)), none, (some 9), []⟩]
def m14r3 : List MOper := [⟨.bin .lss .other (.tmp 9) (.tmp 8), none, (some 10), [9, 8]⟩]
def m14r4 : List MOper := [⟨.iaddr 1 (.tmp 7) (.tmp 9), none, (some 11), [7, 9]⟩,
  ⟨.load none (.tmp 11), none, (some 12), [11]⟩,
  ⟨.mv (.tmp 12), none, (some 5), [12]⟩]
def m14r5 : List MOper := [⟨.mv (.tmp 3), none, (some 13), [3]⟩,
  ⟨.mv (.tmp 5), none, (some 14), [5]⟩,
  ⟨.conv .u32 (.tmp 14), none, (some 15), [14]⟩,
  ⟨.bin .xor .other (.tmp 13) (.tmp 15), none, (some 16), [13, 15]⟩,
  ⟨.mv (.tmp 16), none, (some 3), [16]⟩]
def m14r6 : List MOper := [⟨.mv (.lit (.int .i64 0)), none, (some 17), []⟩]
def m14r7 : List MOper := [⟨.bin .lss .other (.tmp 17) (.lit (.int .i64 8)), none, (some 18), [17]⟩]
def m14r8 : List MOper := [⟨.mv (.tmp 3), none, (some 19), [3]⟩,
  ⟨.bin .and .other (.tmp 19) (.lit (.int .u32 1)), none, (some 20), [19]⟩,
  ⟨.mv (.tmp 20), none, (some 6), [20]⟩]
def m14r9 : List MOper := [⟨.mv (.tmp 3), none, (some 21), [3]⟩,
  ⟨.bin .shr .other (.tmp 21) (.lit (.int .u64 1)), none, (some 22), [21]⟩,
  ⟨.mv (.tmp 22), none, (some 3), [22]⟩]
def m14r10 : List MOper := [⟨.mv (.tmp 6), none, (some 23), [6]⟩,
  ⟨.bin .eql .other (.tmp 23) (.lit (.int .u32 1)), none, (some 24), [23]⟩]
def m14r11 : List MOper := [⟨.mv (.tmp 3), none, (some 25), [3]⟩,
  ⟨.bin .xor .other (.tmp 25) (.lit (.int .u32 3988292384)), none, (some 26), [25]⟩,
  ⟨.mv (.tmp 26), none, (some 3), [26]⟩]
def m14r12 : List MOper := [⟨.bin .add .other (.tmp 17) (.lit (.int .i64 1)), none, (some 27), [17]⟩,
  ⟨.mv (.tmp 27), none, (some 17), [27]⟩]
def m14l13 : MCode := (.seq (.region m14r7 [3, 7, 8, 9, 17, 18])
  (.seq (.cond (.tmp 18)
  .skip
  (.exit 2))
  (.seq (.block 3 (.seq (.region m14r8 [3, 6, 7, 8, 9, 17])
  (.seq (.region m14r9 [3, 6, 7, 8, 9, 17])
  (.seq (.region m14r10 [3, 7, 8, 9, 17, 24])
  (.cond (.tmp 24)
  (.region m14r11 [3, 7, 8, 9, 17])
  .skip)))))
  (.region m14r12 [3, 7, 8, 9, 17]))))
def m14r14 : List MOper := [⟨.bin .add .other (.tmp 9) (.lit (.int .i64 1)), none, (some 28), [9]⟩,
  ⟨.mv (.tmp 28), none, (some 9), [28]⟩]
def m14l15 : MCode := (.seq (.region m14r3 [3, 7, 8, 9, 10])
  (.seq (.cond (.tmp 10)
  .skip
  (.exit 0))
  (.seq (.block 1 (.seq (.region m14r4 [3, 5, 7, 8, 9])
  (.seq (.region m14r5 [3, 7, 8, 9])
  (.seq (.region m14r6 [3, 7, 8, 9, 17])
  (.block 2 (.loop [3, 7, 8, 9, 17] m14l13))))))
  (.region m14r14 [3, 7, 8, 9]))))
def m14r16 : List MOper := [⟨.mv (.tmp 3), none, (some 29), [3]⟩,
  ⟨.un .xor (.tmp 29), none, (some 30), [29]⟩,
  ⟨.mv (.tmp 30), none, (some 2), [30]⟩]
def m14 : MFunc := ⟨31, [.tmp 2],
  (.seq (.region m14r0 [0])
  (.seq (.region m14r1 [0, 3])
  (.seq (.seq (.region m14r2 [3, 7, 8, 9])
  (.block 0 (.loop [3, 7, 8, 9] m14l15)))
  (.seq (.region m14r16 [2])
  .ret))))⟩
def h14 : List RH := [⟨[0], 0, false, []⟩, ⟨[0, 3], 0, false, []⟩, ⟨[3, 7, 8, 9], 0, false, []⟩, ⟨[3, 7, 8, 9], 0, false, []⟩, ⟨[3, 7, 8, 9, 10], 0, false, []⟩, ⟨[3, 5, 7, 8, 9], 0, false, []⟩, ⟨[3, 7, 8, 9], 0, false, []⟩, ⟨[3, 7, 8, 9, 17], 0, false, []⟩, ⟨[3, 7, 8, 9, 17], 0, false, []⟩, ⟨[3, 7, 8, 9, 17, 18], 0, false, []⟩, ⟨[3, 6, 7, 8, 9, 17], 0, false, []⟩, ⟨[3, 6, 7, 8, 9, 17], 0, false, []⟩, ⟨[3, 7, 8, 9, 17, 24], 0, false, []⟩, ⟨[3, 7, 8, 9, 17], 0, false, []⟩, ⟨[3, 7, 8, 9, 17], 0, false, []⟩, ⟨[3, 7, 8, 9], 0, false, []⟩, ⟨[2], 0, false, []⟩]
theorem m14_ok : cmpFn Try.prog 14 h14 = some m14 := by kernel_rfl

/- dialtone/dialtoneref20.Check -/
def m15r0 : List MOper := [⟨.mv (.lit (.int .u32 0)), none, (some 2), []⟩]
def m15r1 : List MOper := [⟨.mv (.lit (.int .u32 4294967295)), none, (some 3), []⟩]
def m15r2 : List MOper := [⟨.mv (.lit (.int .i64 0)), none, (some 4), []⟩]
def m15r3 : List MOper := [⟨.mv (.tmp 4), none, (some 6), [4]⟩,
  ⟨.mv (.tmp 0), none, (some 7), [0]⟩,
  ⟨.len 1 (.tmp 7), none, (some 8), [7]⟩,
  ⟨.bin .lss .other (.tmp 6) (.tmp 8), none, (some 9), [6, 8]⟩]
def m15r4 : List MOper := [⟨.mv (.tmp 3), none, (some 12), [3]⟩,
  ⟨.mv (.tmp 0), none, (some 13), [0]⟩,
  ⟨.mv (.tmp 4), none, (some 14), [4]⟩,
  ⟨.iaddr 1 (.tmp 13) (.tmp 14), none, (some 15), [13, 14]⟩,
  ⟨.load none (.tmp 15), none, (some 16), [15]⟩,
  ⟨.conv .u32 (.tmp 16), none, (some 17), [16]⟩,
  ⟨.bin .xor .other (.tmp 12) (.tmp 17), none, (some 18), [12, 17]⟩,
  ⟨.mv (.tmp 18), none, (some 3), [18]⟩]
def m15r5 : List MOper := [⟨.mv (.lit (.int .i64 0)), none, (some 5), []⟩]
def m15r6 : List MOper := [⟨.mv (.tmp 5), none, (some 19), [5]⟩,
  ⟨.bin .lss .other (.tmp 19) (.lit (.int .i64 8)), none, (some 20), [19]⟩]
def m15r7 : List MOper := [⟨.mv (.tmp 3), none, (some 23), [3]⟩,
  ⟨.bin .rem .other (.tmp 23) (.lit (.int .u32 2)), none, (some 24), [23]⟩,
  ⟨.bin .eql .other (.tmp 24) (.lit (.int .u32 1)), none, (some 25), [24]⟩]
def m15r8 : List MOper := [⟨.mv (.tmp 3), none, (some 26), [3]⟩,
  ⟨.bin .quo .other (.tmp 26) (.lit (.int .u32 2)), none, (some 27), [26]⟩,
  ⟨.bin .xor .other (.tmp 27) (.lit (.int .u32 3988292384)), none, (some 28), [27]⟩,
  ⟨.mv (.tmp 28), none, (some 3), [28]⟩]
def m15r9 : List MOper := [⟨.mv (.tmp 3), none, (some 29), [3]⟩,
  ⟨.bin .quo .other (.tmp 29) (.lit (.int .u32 2)), none, (some 30), [29]⟩,
  ⟨.mv (.tmp 30), none, (some 3), [30]⟩]
def m15r10 : List MOper := [⟨.mv (.tmp 5), none, (some 21), [5]⟩,
  ⟨.bin .add .other (.tmp 21) (.lit (.int .i64 1)), none, (some 22), [21]⟩,
  ⟨.mv (.tmp 22), none, (some 5), [22]⟩]
def m15l11 : MCode := (.seq (.seq (.region m15r6 [0, 3, 4, 5, 20])
  (.cond (.tmp 20)
  .skip
  (.exit 2)))
  (.seq (.block 3 (.seq (.region m15r7 [0, 3, 4, 5, 25])
  (.cond (.tmp 25)
  (.region m15r8 [0, 3, 4, 5])
  (.region m15r9 [0, 3, 4, 5]))))
  (.region m15r10 [0, 3, 4, 5])))
def m15r12 : List MOper := [⟨.mv (.tmp 4), none, (some 10), [4]⟩,
  ⟨.bin .add .other (.tmp 10) (.lit (.int .i64 1)), none, (some 11), [10]⟩,
  ⟨.mv (.tmp 11), none, (some 4), [11]⟩]
def m15l13 : MCode := (.seq (.seq (.region m15r3 [0, 3, 4, 9])
  (.cond (.tmp 9)
  .skip
  (.exit 0)))
  (.seq (.block 1 (.seq (.region m15r4 [0, 3, 4])
  (.seq (.region m15r5 [0, 3, 4, 5])
  (.block 2 (.loop [0, 3, 4, 5] m15l11)))))
  (.region m15r12 [0, 3, 4])))
def m15r14 : List MOper := [⟨.mv (.tmp 3), none, (some 31), [3]⟩,
  ⟨.bin .xor .other (.tmp 31) (.lit (.int .u32 4294967295)), none, (some 32), [31]⟩,
  ⟨.mv (.tmp 32), none, (some 2), [32]⟩]
def m15 : MFunc := ⟨33, [.tmp 2],
  (.seq (.region m15r0 [0])
  (.seq (.region m15r1 [0, 3])
  (.seq (.seq (.region m15r2 [0, 3, 4])
  (.block 0 (.loop [0, 3, 4] m15l13)))
  (.seq (.region m15r14 [2])
  .ret))))⟩
def h15 : List RH := [⟨[0], 0, false, []⟩, ⟨[0, 3], 0, false, []⟩, ⟨[0, 3, 4], 0, false, []⟩, ⟨[0, 3, 4], 0, false, []⟩, ⟨[0, 3, 4, 9], 0, false, []⟩, ⟨[0, 3, 4], 0, false, []⟩, ⟨[0, 3, 4, 5], 0, false, []⟩, ⟨[0, 3, 4, 5], 0, false, []⟩, ⟨[0, 3, 4, 5, 20], 0, false, []⟩, ⟨[0, 3, 4, 5, 25], 0, false, []⟩, ⟨[0, 3, 4, 5], 0, false, []⟩, ⟨[0, 3, 4, 5], 0, false, []⟩, ⟨[0, 3, 4, 5], 0, false, []⟩, ⟨[0, 3, 4], 0, false, []⟩, ⟨[2], 0, false, []⟩]
theorem m15_ok : cmpFn Try.prog 15 h15 = some m15 := by kernel_rfl

/- dialtone/dialtonelaw20.few -/
def m16r0 : List MOper := [⟨.mv (.lit .nils), none, (some 2), []⟩]
def m16r1 : List MOper := [⟨.mv (.lit .nils), none, (some 3), []⟩]
def m16r2 : List MOper := [⟨.mv (.lit (.int .i64 0)), none, (some 4), []⟩]
def m16r3 : List MOper := [⟨.mv (.tmp 4), none, (some 5), [4]⟩,
  ⟨.mv (.tmp 0), none, (some 6), [0]⟩,
  ⟨.len 1 (.tmp 6), none, (some 7), [6]⟩,
  ⟨.bin .lss .other (.tmp 5) (.tmp 7), none, (some 8), [5, 7]⟩,
  ⟨.mv (.tmp 8), none, (some 9), [8]⟩,
  ⟨.mv (.tmp 3), (some (9, true)), (some 10), [3]⟩,
  ⟨.len 1 (.tmp 10), (some (9, true)), (some 11), [10]⟩,
  ⟨.bin .lss .other (.tmp 11) (.lit (.int .i64 20)), (some (9, true)), (some 12), [11]⟩,
  ⟨.pick (.tmp 9) (.tmp 12) (.lit (.bool false)), none, (some 13), [9, 12]⟩]
def m16r4 : List MOper := [⟨.mv (.tmp 0), none, (some 16), [0]⟩,
  ⟨.mv (.tmp 4), none, (some 17), [4]⟩,
  ⟨.iaddr 2 (.tmp 16) (.tmp 17), none, (some 18), [16, 17]⟩,
  ⟨.faddr 1 (.tmp 18), none, (some 19), [18]⟩,
  ⟨.load none (.tmp 19), none, (some 20), [19]⟩,
  ⟨.len 1 (.tmp 20), none, (some 21), [20]⟩,
  ⟨.bin .leq .other (.tmp 21) (.lit (.int .i64 200)), none, (some 22), [21]⟩]
def m16r5 : List MOper := [⟨.mv (.tmp 3), none, (some 23), [3]⟩,
  ⟨.mv (.tmp 0), none, (some 24), [0]⟩,
  ⟨.mv (.tmp 4), none, (some 25), [4]⟩,
  ⟨.iaddr 2 (.tmp 24) (.tmp 25), none, (some 26), [24, 25]⟩,
  ⟨.load (some 2) (.tmp 26), none, (some 27), [26]⟩,
  ⟨.mkfrz [(.int .u8 0), .nils] 1 [(0, (.tmp 27))], none, (some 28), [27]⟩,
  ⟨.append 2 32 (.tmp 23) (.tmp 28), none, (some 29), [23, 28]⟩,
  ⟨.mv (.tmp 29), none, (some 3), [29]⟩]
def m16r6 : List MOper := [⟨.mv (.tmp 4), none, (some 14), [4]⟩,
  ⟨.bin .add .other (.tmp 14) (.lit (.int .i64 1)), none, (some 15), [14]⟩,
  ⟨.mv (.tmp 15), none, (some 4), [15]⟩]
def m16l7 : MCode := (.seq (.seq (.region m16r3 [0, 3, 4, 13])
  (.cond (.tmp 13)
  .skip
  (.exit 0)))
  (.seq (.block 1 (.seq (.region m16r4 [0, 3, 4, 22])
  (.cond (.tmp 22)
  (.region m16r5 [0, 3, 4])
  .skip)))
  (.region m16r6 [0, 3, 4])))
def m16r8 : List MOper := [⟨.mv (.tmp 3), none, (some 30), [3]⟩,
  ⟨.mv (.tmp 30), none, (some 2), [30]⟩]
def m16 : MFunc := ⟨31, [.tmp 2],
  (.seq (.region m16r0 [0])
  (.seq (.region m16r1 [0, 3])
  (.seq (.seq (.region m16r2 [0, 3, 4])
  (.block 0 (.loop [0, 3, 4] m16l7)))
  (.seq (.region m16r8 [2])
  .ret))))⟩
def h16 : List RH := [⟨[0], 0, false, []⟩, ⟨[0, 3], 0, false, []⟩, ⟨[0, 3, 4], 0, false, []⟩, ⟨[0, 3, 4], 0, false, []⟩, ⟨[0, 3, 4, 13], 0, false, []⟩, ⟨[0, 3, 4, 22], 0, false, []⟩, ⟨[0, 3, 4], 0, false, []⟩, ⟨[0, 3, 4], 0, false, []⟩, ⟨[2], 0, false, []⟩]
theorem m16_ok : cmpFn Try.prog 16 h16 = some m16 := by kernel_rfl

/- dialtone/dialtonelaw20.write -/
def m17r0 : List MOper := [⟨.zbox [.nils, (.int .i64 0), (.int .i64 0)], none, (some 2), []⟩,
  ⟨.mv (.lit .nils), none, (some 3), []⟩,
  ⟨.mv (.lit (.bool false)), none, (some 4), []⟩]
def m17r1 : List MOper := [⟨.zbox [.nils, (.int .i64 0), (.int .i64 0)], none, (some 5), []⟩]
def m17r2 : List MOper := [⟨.mv (.lit .nils), none, (some 6), []⟩]
def m17r3 : List MOper := [⟨.mv (.lit (.int .i64 0)), none, (some 7), []⟩]
def m17r4 : List MOper := [⟨.mv (.tmp 7), none, (some 10), [7]⟩,
  ⟨.mv (.tmp 0), none, (some 11), [0]⟩,
  ⟨.len 1 (.tmp 11), none, (some 12), [11]⟩,
  ⟨.bin .lss .other (.tmp 10) (.tmp 12), none, (some 13), [10, 12]⟩]
def m17r5 : List MOper := [⟨.load (some 3) (.tmp 5), none, (some 17), [5]⟩,
  ⟨.mv (.tmp 0), none, (some 18), [0]⟩,
  ⟨.mv (.tmp 7), none, (some 19), [7]⟩,
  ⟨.iaddr 2 (.tmp 18) (.tmp 19), none, (some 20), [18, 19]⟩,
  ⟨.load (some 2) (.tmp 20), none, (some 21), [20]⟩,
  ⟨.call 25 [(.tmp 17), (.tmp 21)], none, (some 22), [17, 21]⟩,
  ⟨.mv (.tmp 22), none, (some 16), [22]⟩,
  ⟨.ext 0 (.tmp 16), none, (some 23), [16]⟩,
  ⟨.ext 1 (.tmp 16), none, (some 24), [16]⟩,
  ⟨.zbox [.nils, (.int .i64 0), (.int .i64 0)], none, (some 8), []⟩]
def m17r6 : List MOper := [⟨.store 3 (.tmp 8) (.tmp 23), none, none, [8, 23]⟩,
  ⟨.mv (.tmp 24), none, (some 9), [24]⟩]
def m17r7 : List MOper := [⟨.mv (.tmp 9), none, (some 25), [9]⟩,
  ⟨.bin .neq .other (.tmp 25) (.lit (.int .u8 0)), none, (some 26), [25]⟩,
  ⟨.mv (.tmp 26), none, (some 27), [26]⟩,
  ⟨.faddr 0 (.tmp 8), (some (27, false)), (some 28), [8]⟩,
  ⟨.load none (.tmp 28), (some (27, false)), (some 29), [28]⟩,
  ⟨.len 1 (.tmp 29), (some (27, false)), (some 30), [29]⟩,
  ⟨.faddr 0 (.tmp 5), (some (27, false)), (some 31), [5]⟩,
  ⟨.load none (.tmp 31), (some (27, false)), (some 32), [31]⟩,
  ⟨.len 1 (.tmp 32), (some (27, false)), (some 33), [32]⟩,
  ⟨.bin .add .other (.tmp 33) (.lit (.int .i64 14)), (some (27, false)), (some 34), [33]⟩,
  ⟨.mv (.tmp 0), (some (27, false)), (some 35), [0]⟩,
  ⟨.mv (.tmp 7), (some (27, false)), (some 36), [7]⟩,
  ⟨.iaddr 2 (.tmp 35) (.tmp 36), (some (27, false)), (some 37), [35, 36]⟩,
  ⟨.faddr 1 (.tmp 37), (some (27, false)), (some 38), [37]⟩,
  ⟨.load none (.tmp 38), (some (27, false)), (some 39), [38]⟩,
  ⟨.len 1 (.tmp 39), (some (27, false)), (some 40), [39]⟩,
  ⟨.bin .add .other (.tmp 34) (.tmp 40), (some (27, false)), (some 41), [34, 40]⟩,
  ⟨.bin .neq .other (.tmp 30) (.tmp 41), (some (27, false)), (some 42), [30, 41]⟩,
  ⟨.pick (.tmp 27) (.lit (.bool true)) (.tmp 42), none, (some 43), [27, 42]⟩,
  ⟨.mv (.tmp 43), none, (some 44), [43]⟩,
  ⟨.faddr 2 (.tmp 8), (some (44, false)), (some 45), [8]⟩,
  ⟨.load none (.tmp 45), (some (44, false)), (some 46), [45]⟩,
  ⟨.mv (.tmp 7), (some (44, false)), (some 47), [7]⟩,
  ⟨.bin .add .other (.tmp 47) (.lit (.int .i64 1)), (some (44, false)), (some 48), [47]⟩]
def m17r8 : List MOper := [⟨.bin .neq .other (.tmp 46) (.tmp 48), (some (44, false)), (some 49), [46, 48]⟩,
  ⟨.pick (.tmp 44) (.lit (.bool true)) (.tmp 49), none, (some 50), [44, 49]⟩,
  ⟨.mv (.tmp 50), none, (some 51), [50]⟩,
  ⟨.faddr 1 (.tmp 8), (some (51, false)), (some 52), [8]⟩,
  ⟨.load none (.tmp 52), (some (51, false)), (some 53), [52]⟩,
  ⟨.bin .neq .other (.tmp 53) (.lit (.int .i64 0)), (some (51, false)), (some 54), [53]⟩,
  ⟨.pick (.tmp 51) (.lit (.bool true)) (.tmp 54), none, (some 55), [51, 54]⟩]
def m17r9 : List MOper := [⟨.build [.nils, (.int .i64 0), (.int .i64 0)] [], none, (some 56), []⟩,
  ⟨.store 3 (.tmp 2) (.tmp 56), none, none, [2, 56]⟩,
  ⟨.mv (.lit .nils), none, (some 3), []⟩,
  ⟨.mv (.lit (.bool false)), none, (some 4), []⟩]
def m17r10 : List MOper := [⟨.load (some 3) (.tmp 8), none, (some 57), [8]⟩,
  ⟨.store 3 (.tmp 5) (.tmp 57), none, none, [5, 57]⟩]
def m17r11 : List MOper := [⟨.mv (.tmp 6), none, (some 58), [6]⟩,
  ⟨.faddr 0 (.tmp 5), none, (some 59), [5]⟩,
  ⟨.load none (.tmp 59), none, (some 60), [59]⟩,
  ⟨.len 1 (.tmp 60), none, (some 61), [60]⟩,
  ⟨.mkfrz [(.int .i64 0)] 1 [(0, (.tmp 61))], none, (some 62), [61]⟩,
  ⟨.append 1 8 (.tmp 58) (.tmp 62), none, (some 63), [58, 62]⟩,
  ⟨.mv (.tmp 63), none, (some 6), [63]⟩]
def m17r12 : List MOper := [⟨.mv (.tmp 7), none, (some 14), [7]⟩,
  ⟨.bin .add .other (.tmp 14) (.lit (.int .i64 1)), none, (some 15), [14]⟩,
  ⟨.mv (.tmp 15), none, (some 7), [15]⟩]
def m17l13 : MCode := (.seq (.seq (.region m17r4 [0, 2, 5, 6, 7, 13])
  (.cond (.tmp 13)
  .skip
  (.exit 0)))
  (.seq (.block 1 (.seq (.dregion m17r5 m17r6 [] [0, 2, 5, 6, 7, 8, 9])
  (.seq (.seq (.dregion m17r7 m17r8 [] [0, 2, 5, 6, 7, 8, 55])
  (.cond (.tmp 55)
  (.seq (.region m17r9 [2, 3, 4])
  .ret)
  .skip))
  (.seq (.region m17r10 [0, 2, 5, 6, 7])
  (.region m17r11 [0, 2, 5, 6, 7])))))
  (.region m17r12 [0, 2, 5, 6, 7])))
def m17r14 : List MOper := [⟨.load (some 3) (.tmp 5), none, (some 64), [5]⟩,
  ⟨.mv (.tmp 6), none, (some 65), [6]⟩,
  ⟨.store 3 (.tmp 2) (.tmp 64), none, none, [2, 64]⟩,
  ⟨.mv (.tmp 65), none, (some 3), [65]⟩,
  ⟨.mv (.lit (.bool true)), none, (some 4), []⟩]
def m17 : MFunc := ⟨66, [.cell 2 (some 3), .tmp 3, .tmp 4],
  (.seq (.region m17r0 [0, 2])
  (.seq (.region m17r1 [0, 2, 5])
  (.seq (.region m17r2 [0, 2, 5, 6])
  (.seq (.seq (.region m17r3 [0, 2, 5, 6, 7])
  (.block 0 (.loop [0, 2, 5, 6, 7] m17l13)))
  (.seq (.region m17r14 [2, 3, 4])
  .ret)))))⟩
def h17 : List RH := [⟨[0, 2], 0, false, []⟩, ⟨[0, 2, 5], 0, false, []⟩, ⟨[0, 2, 5, 6], 0, false, []⟩, ⟨[0, 2, 5, 6, 7], 0, false, []⟩, ⟨[0, 2, 5, 6, 7], 0, false, []⟩, ⟨[0, 2, 5, 6, 7, 13], 0, false, []⟩, ⟨[0, 2, 5, 6, 7, 8, 9], 10, false, []⟩, ⟨[0, 2, 5, 6, 7, 8, 55], 24, false, []⟩, ⟨[2, 3, 4], 0, false, []⟩, ⟨[0, 2, 5, 6, 7], 0, false, []⟩, ⟨[0, 2, 5, 6, 7], 0, false, []⟩, ⟨[0, 2, 5, 6, 7], 0, false, []⟩, ⟨[2, 3, 4], 0, false, []⟩]
theorem m17_ok : cmpFn Try.prog 17 h17 = some m17 := by kernel_rfl

/- dialtone/journal.Scan -/
def m18r0 : List MOper := [⟨.mv (.lit .nils), none, (some 2), []⟩,
  ⟨.mv (.lit (.int .i64 0)), none, (some 3), []⟩,
  ⟨.mv (.lit (.int .u8 0)), none, (some 4), []⟩]
def m18r1 : List MOper := [⟨.mv (.tmp 0), none, (some 9), [0]⟩,
  ⟨.build [.nils, (.int .i64 0)] [(0, 1, (.tmp 9))], none, (some 10), [9]⟩,
  ⟨.box 2 (.tmp 10), none, (some 11), [10]⟩,
  ⟨.mv (.tmp 11), none, (some 5), [11]⟩]
def m18r2 : List MOper := [⟨.mv (.lit .nils), none, (some 6), []⟩]
def m18r3 : List MOper := [⟨.mv (.tmp 5), none, (some 12), [5]⟩,
  ⟨.nilchk (.tmp 12), none, (some 13), [12]⟩,
  ⟨.faddr 0 (.tmp 13), none, (some 14), [13]⟩,
  ⟨.load none (.tmp 14), none, (some 15), [14]⟩,
  ⟨.len 1 (.tmp 15), none, (some 16), [15]⟩,
  ⟨.bin .gtr .other (.tmp 16) (.lit (.int .i64 0)), none, (some 17), [16]⟩]
def m18r4 : List MOper := [⟨.mv (.tmp 5), none, (some 19), [5]⟩,
  ⟨.call 34 [(.tmp 19)], none, (some 20), [19]⟩,
  ⟨.mv (.tmp 20), none, (some 18), [20]⟩,
  ⟨.ext 0 (.tmp 18), none, (some 21), [18]⟩,
  ⟨.ext 1 (.tmp 18), none, (some 22), [18]⟩,
  ⟨.zbox [(.int .u8 0), .nils], none, (some 7), []⟩,
  ⟨.store 2 (.tmp 7) (.tmp 21), none, none, [7, 21]⟩,
  ⟨.mv (.tmp 22), none, (some 8), [22]⟩]
def m18r5 : List MOper := [⟨.mv (.tmp 8), none, (some 23), [8]⟩,
  ⟨.bin .neq .other (.tmp 23) (.lit (.int .u8 0)), none, (some 24), [23]⟩]
def m18r6 : List MOper := [⟨.mv (.tmp 6), none, (some 25), [6]⟩,
  ⟨.mv (.tmp 0), none, (some 26), [0]⟩,
  ⟨.len 1 (.tmp 26), none, (some 27), [26]⟩,
  ⟨.mv (.tmp 5), none, (some 28), [5]⟩,
  ⟨.nilchk (.tmp 28), none, (some 29), [28]⟩,
  ⟨.faddr 0 (.tmp 29), none, (some 30), [29]⟩,
  ⟨.load none (.tmp 30), none, (some 31), [30]⟩,
  ⟨.len 1 (.tmp 31), none, (some 32), [31]⟩,
  ⟨.bin .sub .other (.tmp 27) (.tmp 32), none, (some 33), [27, 32]⟩,
  ⟨.mv (.tmp 8), none, (some 34), [8]⟩,
  ⟨.mv (.tmp 25), none, (some 2), [25]⟩]
def m18r7 : List MOper := [⟨.mv (.tmp 33), none, (some 3), [33]⟩,
  ⟨.mv (.tmp 34), none, (some 4), [34]⟩]
def m18r8 : List MOper := [⟨.mv (.tmp 6), none, (some 35), [6]⟩,
  ⟨.load (some 2) (.tmp 7), none, (some 36), [7]⟩,
  ⟨.mkfrz [(.int .u8 0), .nils] 1 [(0, (.tmp 36))], none, (some 37), [36]⟩,
  ⟨.append 2 32 (.tmp 35) (.tmp 37), none, (some 38), [35, 37]⟩,
  ⟨.mv (.tmp 38), none, (some 6), [38]⟩]
def m18l9 : MCode := (.seq (.seq (.seq .conv
  (.region m18r3 [0, 5, 6, 17]))
  (.cond (.tmp 17)
  .skip
  (.exit 0)))
  (.block 1 (.seq (.region m18r4 [0, 5, 6, 7, 8])
  (.seq (.seq (.region m18r5 [0, 5, 6, 7, 8, 24])
  (.cond (.tmp 24)
  (.seq (.dregion m18r6 m18r7 [] [2, 3, 4])
  .ret)
  .skip))
  (.region m18r8 [0, 5, 6])))))
def m18r10 : List MOper := [⟨.mv (.tmp 6), none, (some 39), [6]⟩,
  ⟨.mv (.tmp 0), none, (some 40), [0]⟩,
  ⟨.len 1 (.tmp 40), none, (some 41), [40]⟩,
  ⟨.mv (.tmp 39), none, (some 2), [39]⟩,
  ⟨.mv (.tmp 41), none, (some 3), [41]⟩,
  ⟨.mv (.lit (.int .u8 0)), none, (some 4), []⟩]
def m18 : MFunc := ⟨42, [.tmp 2, .tmp 3, .tmp 4],
  (.seq (.region m18r0 [0])
  (.seq (.region m18r1 [0, 5])
  (.seq (.region m18r2 [0, 5, 6])
  (.seq (.block 0 (.loop [0, 5, 6] m18l9))
  (.seq (.region m18r10 [2, 3, 4])
  .ret)))))⟩
def h18 : List RH := [⟨[0], 0, false, []⟩, ⟨[0, 5], 0, false, []⟩, ⟨[0, 5, 6], 0, false, []⟩, ⟨[0, 5, 6], 0, false, []⟩, ⟨[0, 5, 6, 17], 0, true, []⟩, ⟨[0, 5, 6, 7, 8], 0, false, []⟩, ⟨[0, 5, 6, 7, 8, 24], 0, false, []⟩, ⟨[2, 3, 4], 11, false, []⟩, ⟨[0, 5, 6], 0, false, []⟩, ⟨[2, 3, 4], 0, false, []⟩]
theorem m18_ok : cmpFn Try.prog 18 h18 = some m18 := by kernel_rfl

/- dialtone/dialtoneref20.Same -/
def m19r0 : List MOper := [⟨.mv (.lit (.bool false)), none, (some 4), []⟩]
def m19r1 : List MOper := [⟨.mv (.tmp 0), none, (some 6), [0]⟩,
  ⟨.len 1 (.tmp 6), none, (some 7), [6]⟩,
  ⟨.mv (.tmp 1), none, (some 8), [1]⟩,
  ⟨.len 1 (.tmp 8), none, (some 9), [8]⟩,
  ⟨.bin .neq .other (.tmp 7) (.tmp 9), none, (some 10), [7, 9]⟩]
def m19r2 : List MOper := [⟨.mv (.lit (.bool false)), none, (some 4), []⟩]
def m19r3 : List MOper := [⟨.mv (.lit (.int .i64 0)), none, (some 5), []⟩]
def m19r4 : List MOper := [⟨.mv (.tmp 5), none, (some 11), [5]⟩,
  ⟨.mv (.tmp 0), none, (some 12), [0]⟩,
  ⟨.len 1 (.tmp 12), none, (some 13), [12]⟩,
  ⟨.bin .lss .other (.tmp 11) (.tmp 13), none, (some 14), [11, 13]⟩]
def m19r5 : List MOper := [⟨.mv (.tmp 0), none, (some 17), [0]⟩,
  ⟨.mv (.tmp 5), none, (some 18), [5]⟩,
  ⟨.iaddr 2 (.tmp 17) (.tmp 18), none, (some 19), [17, 18]⟩,
  ⟨.faddr 0 (.tmp 19), none, (some 20), [19]⟩,
  ⟨.load none (.tmp 20), none, (some 21), [20]⟩,
  ⟨.mv (.tmp 1), none, (some 22), [1]⟩,
  ⟨.mv (.tmp 5), none, (some 23), [5]⟩,
  ⟨.iaddr 2 (.tmp 22) (.tmp 23), none, (some 24), [22, 23]⟩,
  ⟨.faddr 0 (.tmp 24), none, (some 25), [24]⟩,
  ⟨.load none (.tmp 25), none, (some 26), [25]⟩,
  ⟨.bin .neq .other (.tmp 21) (.tmp 26), none, (some 27), [21, 26]⟩,
  ⟨.mv (.tmp 27), none, (some 28), [27]⟩,
  ⟨.mv (.tmp 0), (some (28, false)), (some 29), [0]⟩,
  ⟨.mv (.tmp 5), (some (28, false)), (some 30), [5]⟩,
  ⟨.iaddr 2 (.tmp 29) (.tmp 30), (some (28, false)), (some 31), [29, 30]⟩,
  ⟨.faddr 1 (.tmp 31), (some (28, false)), (some 32), [31]⟩,
  ⟨.load none (.tmp 32), (some (28, false)), (some 33), [32]⟩,
  ⟨.tostr (.tmp 33), (some (28, false)), (some 34), [33]⟩,
  ⟨.mv (.tmp 1), (some (28, false)), (some 35), [1]⟩,
  ⟨.mv (.tmp 5), (some (28, false)), (some 36), [5]⟩,
  ⟨.iaddr 2 (.tmp 35) (.tmp 36), (some (28, false)), (some 37), [35, 36]⟩,
  ⟨.faddr 1 (.tmp 37), (some (28, false)), (some 38), [37]⟩,
  ⟨.load none (.tmp 38), (some (28, false)), (some 39), [38]⟩,
  ⟨.tostr (.tmp 39), (some (28, false)), (some 40), [39]⟩]
def m19r6 : List MOper := [⟨.bin .neq .other (.tmp 34) (.tmp 40), (some (28, false)), (some 41), [34, 40]⟩,
  ⟨.pick (.tmp 28) (.lit (.bool true)) (.tmp 41), none, (some 42), [28, 41]⟩]
def m19r7 : List MOper := [⟨.mv (.lit (.bool false)), none, (some 4), []⟩]
def m19r8 : List MOper := [⟨.mv (.tmp 5), none, (some 15), [5]⟩,
  ⟨.bin .add .other (.tmp 15) (.lit (.int .i64 1)), none, (some 16), [15]⟩,
  ⟨.mv (.tmp 16), none, (some 5), [16]⟩]
def m19l9 : MCode := (.seq (.seq (.region m19r4 [0, 1, 5, 14])
  (.cond (.tmp 14)
  .skip
  (.exit 0)))
  (.seq (.block 1 (.seq (.dregion m19r5 m19r6 [] [0, 1, 5, 42])
  (.cond (.tmp 42)
  (.seq (.region m19r7 [4])
  .ret)
  .skip)))
  (.region m19r8 [0, 1, 5])))
def m19r10 : List MOper := [⟨.mv (.lit (.bool true)), none, (some 4), []⟩]
def m19 : MFunc := ⟨43, [.tmp 4],
  (.seq (.region m19r0 [0, 1])
  (.seq (.seq (.region m19r1 [0, 1, 10])
  (.cond (.tmp 10)
  (.seq (.region m19r2 [4])
  .ret)
  .skip))
  (.seq (.seq (.region m19r3 [0, 1, 5])
  (.block 0 (.loop [0, 1, 5] m19l9)))
  (.seq (.region m19r10 [4])
  .ret))))⟩
def h19 : List RH := [⟨[0, 1], 0, false, []⟩, ⟨[0, 1, 10], 0, false, []⟩, ⟨[4], 0, false, []⟩, ⟨[0, 1, 5], 0, false, []⟩, ⟨[0, 1, 5], 0, false, []⟩, ⟨[0, 1, 5, 14], 0, false, []⟩, ⟨[0, 1, 5, 42], 24, false, []⟩, ⟨[4], 0, false, []⟩, ⟨[0, 1, 5], 0, false, []⟩, ⟨[4], 0, false, []⟩]
theorem m19_ok : cmpFn Try.prog 19 h19 = some m19 := by kernel_rfl

/- dialtone/dialtoneref20.Scan -/
def m20r0 : List MOper := [⟨.mv (.lit .nils), none, (some 2), []⟩,
  ⟨.mv (.lit (.int .i64 0)), none, (some 3), []⟩,
  ⟨.mv (.lit (.int .u8 0)), none, (some 4), []⟩]
def m20r1 : List MOper := [⟨.mv (.lit .nils), none, (some 5), []⟩]
def m20r2 : List MOper := [⟨.mv (.lit (.int .i64 0)), none, (some 6), []⟩]
def m20r3 : List MOper := [⟨.mv (.tmp 6), none, (some 10), [6]⟩,
  ⟨.mv (.tmp 0), none, (some 11), [0]⟩,
  ⟨.len 1 (.tmp 11), none, (some 12), [11]⟩,
  ⟨.bin .lss .other (.tmp 10) (.tmp 12), none, (some 13), [10, 12]⟩]
def m20r4 : List MOper := [⟨.mv (.tmp 0), none, (some 15), [0]⟩,
  ⟨.mv (.tmp 6), none, (some 16), [6]⟩,
  ⟨.slc 1 (.tmp 15) (some (.tmp 16)) none none, none, (some 17), [15, 16]⟩,
  ⟨.mv (.tmp 5), none, (some 18), [5]⟩,
  ⟨.len 1 (.tmp 18), none, (some 19), [18]⟩,
  ⟨.call 35 [(.tmp 17), (.tmp 19)], none, (some 20), [17, 19]⟩,
  ⟨.mv (.tmp 20), none, (some 14), [20]⟩,
  ⟨.ext 0 (.tmp 14), none, (some 21), [14]⟩,
  ⟨.ext 1 (.tmp 14), none, (some 22), [14]⟩,
  ⟨.ext 2 (.tmp 14), none, (some 23), [14]⟩,
  ⟨.zbox [(.int .u8 0), .nils], none, (some 7), []⟩,
  ⟨.store 2 (.tmp 7) (.tmp 21), none, none, [7, 21]⟩,
  ⟨.mv (.tmp 22), none, (some 8), [22]⟩,
  ⟨.mv (.tmp 23), none, (some 9), [23]⟩]
def m20r5 : List MOper := [⟨.mv (.tmp 9), none, (some 24), [9]⟩,
  ⟨.bin .neq .other (.tmp 24) (.lit (.int .u8 0)), none, (some 25), [24]⟩]
def m20r6 : List MOper := [⟨.mv (.tmp 5), none, (some 26), [5]⟩,
  ⟨.mv (.tmp 6), none, (some 27), [6]⟩,
  ⟨.mv (.tmp 9), none, (some 28), [9]⟩,
  ⟨.mv (.tmp 26), none, (some 2), [26]⟩,
  ⟨.mv (.tmp 27), none, (some 3), [27]⟩,
  ⟨.mv (.tmp 28), none, (some 4), [28]⟩]
def m20r7 : List MOper := [⟨.mv (.tmp 5), none, (some 29), [5]⟩,
  ⟨.load (some 2) (.tmp 7), none, (some 30), [7]⟩,
  ⟨.mkfrz [(.int .u8 0), .nils] 1 [(0, (.tmp 30))], none, (some 31), [30]⟩,
  ⟨.append 2 32 (.tmp 29) (.tmp 31), none, (some 32), [29, 31]⟩,
  ⟨.mv (.tmp 32), none, (some 5), [32]⟩]
def m20r8 : List MOper := [⟨.mv (.tmp 6), none, (some 33), [6]⟩,
  ⟨.mv (.tmp 8), none, (some 34), [8]⟩,
  ⟨.bin .add .other (.tmp 33) (.tmp 34), none, (some 35), [33, 34]⟩,
  ⟨.mv (.tmp 35), none, (some 6), [35]⟩]
def m20l9 : MCode := (.seq (.seq (.seq .conv
  (.region m20r3 [0, 5, 6, 13]))
  (.cond (.tmp 13)
  .skip
  (.exit 0)))
  (.block 1 (.seq (.region m20r4 [0, 5, 6, 7, 8, 9])
  (.seq (.seq (.region m20r5 [0, 5, 6, 7, 8, 9, 25])
  (.cond (.tmp 25)
  (.seq (.region m20r6 [2, 3, 4])
  .ret)
  .skip))
  (.seq (.region m20r7 [0, 5, 6, 8])
  (.region m20r8 [0, 5, 6]))))))
def m20r10 : List MOper := [⟨.mv (.tmp 5), none, (some 36), [5]⟩,
  ⟨.mv (.tmp 6), none, (some 37), [6]⟩,
  ⟨.mv (.tmp 36), none, (some 2), [36]⟩,
  ⟨.mv (.tmp 37), none, (some 3), [37]⟩,
  ⟨.mv (.lit (.int .u8 0)), none, (some 4), []⟩]
def m20 : MFunc := ⟨38, [.tmp 2, .tmp 3, .tmp 4],
  (.seq (.region m20r0 [0])
  (.seq (.region m20r1 [0, 5])
  (.seq (.region m20r2 [0, 5, 6])
  (.seq (.block 0 (.loop [0, 5, 6] m20l9))
  (.seq (.region m20r10 [2, 3, 4])
  .ret)))))⟩
def h20 : List RH := [⟨[0], 0, false, []⟩, ⟨[0, 5], 0, false, []⟩, ⟨[0, 5, 6], 0, false, []⟩, ⟨[0, 5, 6], 0, false, []⟩, ⟨[0, 5, 6, 13], 0, true, []⟩, ⟨[0, 5, 6, 7, 8, 9], 0, false, []⟩, ⟨[0, 5, 6, 7, 8, 9, 25], 0, false, []⟩, ⟨[2, 3, 4], 0, false, []⟩, ⟨[0, 5, 6, 8], 0, false, []⟩, ⟨[0, 5, 6], 0, false, []⟩, ⟨[2, 3, 4], 0, false, []⟩]
theorem m20_ok : cmpFn Try.prog 20 h20 = some m20 := by kernel_rfl

/- dialtone/journal.Recover -/
def m21r0 : List MOper := [⟨.zbox [.nils, (.int .i64 0), (.int .i64 0)], none, (some 2), []⟩,
  ⟨.mv (.lit .nils), none, (some 3), []⟩]
def m21r1 : List MOper := [⟨.mv (.tmp 0), none, (some 8), [0]⟩,
  ⟨.call 18 [(.tmp 8)], none, (some 9), [8]⟩,
  ⟨.mv (.tmp 9), none, (some 7), [9]⟩,
  ⟨.ext 0 (.tmp 7), none, (some 10), [7]⟩,
  ⟨.ext 1 (.tmp 7), none, (some 11), [7]⟩,
  ⟨.ext 2 (.tmp 7), none, (some 12), [7]⟩,
  ⟨.mv (.tmp 10), none, (some 4), [10]⟩,
  ⟨.mv (.tmp 11), none, (some 5), [11]⟩,
  ⟨.mv (.tmp 12), none, (some 6), [12]⟩]
def m21r2 : List MOper := [⟨.mv (.tmp 0), none, (some 13), [0]⟩,
  ⟨.mv (.tmp 5), none, (some 14), [5]⟩,
  ⟨.slc 1 (.tmp 13) none (some (.tmp 14)) none, none, (some 15), [13, 14]⟩,
  ⟨.append 1 1 (.lit .nils) (.tmp 15), none, (some 16), [15]⟩,
  ⟨.mv (.tmp 5), none, (some 17), [5]⟩,
  ⟨.mv (.tmp 4), none, (some 18), [4]⟩,
  ⟨.len 1 (.tmp 18), none, (some 19), [18]⟩,
  ⟨.build [.nils, (.int .i64 0), (.int .i64 0)] [(0, 1, (.tmp 16)), (1, 1, (.tmp 17)), (2, 1, (.tmp 19))], none, (some 20), [16, 17, 19]⟩,
  ⟨.mv (.tmp 4), none, (some 21), [4]⟩,
  ⟨.store 3 (.tmp 2) (.tmp 20), none, none, [2, 20]⟩,
  ⟨.mv (.tmp 21), none, (some 3), [21]⟩]
def m21 : MFunc := ⟨22, [.cell 2 (some 3), .tmp 3],
  (.seq (.region m21r0 [0, 2])
  (.seq (.region m21r1 [0, 2, 4, 5])
  (.seq (.region m21r2 [2, 3])
  .ret)))⟩
def h21 : List RH := [⟨[0, 2], 0, false, []⟩, ⟨[0, 2, 4, 5], 0, false, []⟩, ⟨[2, 3], 0, false, []⟩]
theorem m21_ok : cmpFn Try.prog 21 h21 = some m21 := by kernel_rfl

/- dialtone/dialtoneref20.Recover -/
def m22r0 : List MOper := [⟨.zbox [.nils, (.int .i64 0), (.int .i64 0)], none, (some 2), []⟩,
  ⟨.mv (.lit .nils), none, (some 3), []⟩]
def m22r1 : List MOper := [⟨.mv (.tmp 0), none, (some 8), [0]⟩,
  ⟨.call 20 [(.tmp 8)], none, (some 9), [8]⟩,
  ⟨.mv (.tmp 9), none, (some 7), [9]⟩,
  ⟨.ext 0 (.tmp 7), none, (some 10), [7]⟩,
  ⟨.ext 1 (.tmp 7), none, (some 11), [7]⟩,
  ⟨.ext 2 (.tmp 7), none, (some 12), [7]⟩,
  ⟨.mv (.tmp 10), none, (some 4), [10]⟩,
  ⟨.mv (.tmp 11), none, (some 5), [11]⟩,
  ⟨.mv (.tmp 12), none, (some 6), [12]⟩]
def m22r2 : List MOper := [⟨.mv (.tmp 0), none, (some 13), [0]⟩,
  ⟨.mv (.tmp 5), none, (some 14), [5]⟩,
  ⟨.slc 1 (.tmp 13) none (some (.tmp 14)) none, none, (some 15), [13, 14]⟩,
  ⟨.call 36 [(.tmp 15)], none, (some 16), [15]⟩,
  ⟨.mv (.tmp 5), none, (some 17), [5]⟩,
  ⟨.mv (.tmp 4), none, (some 18), [4]⟩,
  ⟨.len 1 (.tmp 18), none, (some 19), [18]⟩,
  ⟨.build [.nils, (.int .i64 0), (.int .i64 0)] [(0, 1, (.tmp 16)), (1, 1, (.tmp 17)), (2, 1, (.tmp 19))], none, (some 20), [16, 17, 19]⟩,
  ⟨.mv (.tmp 4), none, (some 21), [4]⟩,
  ⟨.store 3 (.tmp 2) (.tmp 20), none, none, [2, 20]⟩,
  ⟨.mv (.tmp 21), none, (some 3), [21]⟩]
def m22 : MFunc := ⟨22, [.cell 2 (some 3), .tmp 3],
  (.seq (.region m22r0 [0, 2])
  (.seq (.region m22r1 [0, 2, 4, 5])
  (.seq (.region m22r2 [2, 3])
  .ret)))⟩
def h22 : List RH := [⟨[0, 2], 0, false, []⟩, ⟨[0, 2, 4, 5], 0, false, []⟩, ⟨[2, 3], 0, false, []⟩]
theorem m22_ok : cmpFn Try.prog 22 h22 = some m22 := by kernel_rfl

/- dialtone/dialtoneref20.SameLog -/
def m23r0 : List MOper := [⟨.box 3 (.tmp 0), none, (some 2), [0]⟩,
  ⟨.box 3 (.tmp 1), none, (some 3), [1]⟩,
  ⟨.mv (.lit (.bool false)), none, (some 4), []⟩]
def m23r1 : List MOper := [⟨.faddr 0 (.tmp 2), none, (some 5), [2]⟩,
  ⟨.load none (.tmp 5), none, (some 6), [5]⟩,
  ⟨.tostr (.tmp 6), none, (some 7), [6]⟩,
  ⟨.faddr 0 (.tmp 3), none, (some 8), [3]⟩,
  ⟨.load none (.tmp 8), none, (some 9), [8]⟩,
  ⟨.tostr (.tmp 9), none, (some 10), [9]⟩,
  ⟨.bin .eql .other (.tmp 7) (.tmp 10), none, (some 11), [7, 10]⟩,
  ⟨.mv (.tmp 11), none, (some 12), [11]⟩,
  ⟨.faddr 1 (.tmp 2), (some (12, true)), (some 13), [2]⟩,
  ⟨.load none (.tmp 13), (some (12, true)), (some 14), [13]⟩,
  ⟨.faddr 1 (.tmp 3), (some (12, true)), (some 15), [3]⟩,
  ⟨.load none (.tmp 15), (some (12, true)), (some 16), [15]⟩,
  ⟨.bin .eql .other (.tmp 14) (.tmp 16), (some (12, true)), (some 17), [14, 16]⟩,
  ⟨.pick (.tmp 12) (.tmp 17) (.lit (.bool false)), none, (some 18), [12, 17]⟩,
  ⟨.mv (.tmp 18), none, (some 19), [18]⟩,
  ⟨.faddr 2 (.tmp 2), (some (19, true)), (some 20), [2]⟩,
  ⟨.load none (.tmp 20), (some (19, true)), (some 21), [20]⟩,
  ⟨.faddr 2 (.tmp 3), (some (19, true)), (some 22), [3]⟩,
  ⟨.load none (.tmp 22), (some (19, true)), (some 23), [22]⟩,
  ⟨.bin .eql .other (.tmp 21) (.tmp 23), (some (19, true)), (some 24), [21, 23]⟩,
  ⟨.pick (.tmp 19) (.tmp 24) (.lit (.bool false)), none, (some 25), [19, 24]⟩,
  ⟨.mv (.tmp 25), none, (some 4), [25]⟩]
def m23 : MFunc := ⟨26, [.tmp 4],
  (.seq (.region m23r0 [2, 3])
  (.seq (.region m23r1 [4])
  .ret))⟩
def h23 : List RH := [⟨[2, 3], 0, false, []⟩, ⟨[4], 0, false, []⟩]
theorem m23_ok : cmpFn Try.prog 23 h23 = some m23 := by kernel_rfl

/- dialtone/journal.Crash -/
def m24r0 : List MOper := [⟨.box 3 (.tmp 0), none, (some 2), [0]⟩,
  ⟨.mv (.lit .nils), none, (some 4), []⟩]
def m24r1 : List MOper := [⟨.load (some 3) (.tmp 2), none, (some 5), [2]⟩,
  ⟨.call 27 [(.tmp 5)], none, (some 6), [5]⟩,
  ⟨.un .not (.tmp 6), none, (some 7), [6]⟩]
def m24r2 : List MOper := [⟨.mv (.lit .nils), none, (some 4), []⟩]
def m24r3 : List MOper := [⟨.faddr 0 (.tmp 2), none, (some 8), [2]⟩,
  ⟨.load none (.tmp 8), none, (some 9), [8]⟩,
  ⟨.faddr 1 (.tmp 2), none, (some 10), [2]⟩,
  ⟨.load none (.tmp 10), none, (some 11), [10]⟩,
  ⟨.mv (.tmp 1), none, (some 12), [1]⟩,
  ⟨.faddr 0 (.tmp 2), none, (some 13), [2]⟩,
  ⟨.load none (.tmp 13), none, (some 14), [13]⟩,
  ⟨.len 1 (.tmp 14), none, (some 15), [14]⟩,
  ⟨.minmax false (.tmp 12) [(.tmp 15)], none, (some 16), [12, 15]⟩,
  ⟨.minmax true (.tmp 11) [(.tmp 16)], none, (some 17), [11, 16]⟩,
  ⟨.slc 1 (.tmp 9) none (some (.tmp 17)) none, none, (some 18), [9, 17]⟩,
  ⟨.append 1 1 (.lit .nils) (.tmp 18), none, (some 19), [18]⟩,
  ⟨.mv (.tmp 19), none, (some 4), [19]⟩]
def m24 : MFunc := ⟨20, [.tmp 4],
  (.seq (.region m24r0 [1, 2])
  (.seq (.seq (.region m24r1 [1, 2, 7])
  (.cond (.tmp 7)
  (.seq (.region m24r2 [4])
  .ret)
  .skip))
  (.seq (.region m24r3 [4])
  .ret)))⟩
def h24 : List RH := [⟨[1, 2], 0, false, []⟩, ⟨[1, 2, 7], 0, false, []⟩, ⟨[4], 0, false, []⟩, ⟨[4], 0, false, []⟩]
theorem m24_ok : cmpFn Try.prog 24 h24 = some m24 := by kernel_rfl

/- dialtone/journal.Append -/
def m25r0 : List MOper := [⟨.box 3 (.tmp 0), none, (some 2), [0]⟩,
  ⟨.box 2 (.tmp 1), none, (some 3), [1]⟩,
  ⟨.zbox [.nils, (.int .i64 0), (.int .i64 0)], none, (some 4), []⟩,
  ⟨.mv (.lit (.int .u8 0)), none, (some 5), []⟩]
def m25r1 : List MOper := [⟨.load (some 3) (.tmp 2), none, (some 9), [2]⟩,
  ⟨.call 27 [(.tmp 9)], none, (some 10), [9]⟩,
  ⟨.un .not (.tmp 10), none, (some 11), [10]⟩,
  ⟨.mv (.tmp 11), none, (some 8), [11]⟩]
def m25r2 : List MOper := [⟨.build [.nils, (.int .i64 0), (.int .i64 0)] [], none, (some 12), []⟩,
  ⟨.store 3 (.tmp 4) (.tmp 12), none, none, [4, 12]⟩,
  ⟨.mv (.lit (.int .u8 2)), none, (some 5), []⟩]
def m25r3 : List MOper := [⟨.faddr 2 (.tmp 2), none, (some 14), [2]⟩,
  ⟨.load none (.tmp 14), none, (some 15), [14]⟩,
  ⟨.bin .eql .other (.tmp 15) (.lit (.int .i64 1048576)), none, (some 16), [15]⟩,
  ⟨.mv (.tmp 16), none, (some 13), [16]⟩]
def m25r4 : List MOper := [⟨.build [.nils, (.int .i64 0), (.int .i64 0)] [], none, (some 17), []⟩,
  ⟨.store 3 (.tmp 4) (.tmp 17), none, none, [4, 17]⟩,
  ⟨.mv (.lit (.int .u8 10)), none, (some 5), []⟩]
def m25r5 : List MOper := [⟨.faddr 2 (.tmp 2), none, (some 19), [2]⟩,
  ⟨.load none (.tmp 19), none, (some 20), [19]⟩,
  ⟨.load (some 2) (.tmp 3), none, (some 21), [3]⟩,
  ⟨.call 12 [(.tmp 20), (.tmp 21)], none, (some 22), [20, 21]⟩,
  ⟨.mv (.tmp 22), none, (some 18), [22]⟩,
  ⟨.ext 0 (.tmp 18), none, (some 23), [18]⟩,
  ⟨.ext 1 (.tmp 18), none, (some 24), [18]⟩,
  ⟨.mv (.tmp 23), none, (some 6), [23]⟩,
  ⟨.mv (.tmp 24), none, (some 7), [24]⟩]
def m25r6 : List MOper := [⟨.mv (.tmp 7), none, (some 25), [7]⟩,
  ⟨.bin .neq .other (.tmp 25) (.lit (.int .u8 0)), none, (some 26), [25]⟩]
def m25r7 : List MOper := [⟨.build [.nils, (.int .i64 0), (.int .i64 0)] [], none, (some 27), []⟩,
  ⟨.mv (.tmp 7), none, (some 28), [7]⟩,
  ⟨.store 3 (.tmp 4) (.tmp 27), none, none, [4, 27]⟩,
  ⟨.mv (.tmp 28), none, (some 5), [28]⟩]
def m25r8 : List MOper := [⟨.faddr 0 (.tmp 2), none, (some 29), [2]⟩,
  ⟨.load none (.tmp 29), none, (some 30), [29]⟩,
  ⟨.append 1 1 (.lit .nils) (.tmp 30), none, (some 31), [30]⟩,
  ⟨.mv (.tmp 6), none, (some 32), [6]⟩,
  ⟨.append 1 1 (.tmp 31) (.tmp 32), none, (some 33), [31, 32]⟩,
  ⟨.faddr 0 (.tmp 2), none, (some 34), [2]⟩,
  ⟨.store 1 (.tmp 34) (.tmp 33), none, none, [34, 33]⟩]
def m25r9 : List MOper := [⟨.faddr 2 (.tmp 2), none, (some 35), [2]⟩,
  ⟨.load none (.tmp 35), none, (some 36), [35]⟩,
  ⟨.bin .add .other (.tmp 36) (.lit (.int .i64 1)), none, (some 37), [36]⟩,
  ⟨.faddr 2 (.tmp 2), none, (some 38), [2]⟩,
  ⟨.store 1 (.tmp 38) (.tmp 37), none, none, [38, 37]⟩]
def m25r10 : List MOper := [⟨.load (some 3) (.tmp 2), none, (some 39), [2]⟩,
  ⟨.store 3 (.tmp 4) (.tmp 39), none, none, [4, 39]⟩,
  ⟨.mv (.lit (.int .u8 0)), none, (some 5), []⟩]
def m25 : MFunc := ⟨40, [.cell 4 (some 3), .tmp 5],
  (.seq (.region m25r0 [2, 3, 4])
  (.seq (.block 0 (.seq (.region m25r1 [2, 3, 4, 8])
  (.cond (.tmp 8)
  (.seq (.region m25r2 [4, 5])
  .ret)
  (.seq (.region m25r3 [2, 3, 4, 13])
  (.cond (.tmp 13)
  (.seq (.region m25r4 [4, 5])
  .ret)
  .skip)))))
  (.seq (.region m25r5 [2, 4, 6, 7])
  (.seq (.seq (.region m25r6 [2, 4, 6, 7, 26])
  (.cond (.tmp 26)
  (.seq (.region m25r7 [4, 5])
  .ret)
  .skip))
  (.seq (.region m25r8 [2, 4])
  (.seq (.region m25r9 [2, 4])
  (.seq (.region m25r10 [4, 5])
  .ret)))))))⟩
def h25 : List RH := [⟨[2, 3, 4], 0, false, []⟩, ⟨[2, 3, 4, 8], 0, false, []⟩, ⟨[4, 5], 0, false, []⟩, ⟨[2, 3, 4, 13], 0, false, []⟩, ⟨[4, 5], 0, false, []⟩, ⟨[2, 4, 6, 7], 0, false, []⟩, ⟨[2, 4, 6, 7, 26], 0, false, []⟩, ⟨[4, 5], 0, false, []⟩, ⟨[2, 4], 0, false, []⟩, ⟨[2, 4], 0, false, []⟩, ⟨[4, 5], 0, false, []⟩]
theorem m25_ok : cmpFn Try.prog 25 h25 = some m25 := by kernel_rfl

/- dialtone/dialtoneref20.Append -/
def m26r0 : List MOper := [⟨.box 3 (.tmp 0), none, (some 2), [0]⟩,
  ⟨.box 2 (.tmp 1), none, (some 3), [1]⟩,
  ⟨.zbox [.nils, (.int .i64 0), (.int .i64 0)], none, (some 4), []⟩,
  ⟨.mv (.lit (.int .u8 0)), none, (some 5), []⟩]
def m26r1 : List MOper := [⟨.load (some 3) (.tmp 2), none, (some 8), [2]⟩,
  ⟨.call 28 [(.tmp 8)], none, (some 9), [8]⟩,
  ⟨.un .not (.tmp 9), none, (some 10), [9]⟩]
def m26r2 : List MOper := [⟨.build [.nils, (.int .i64 0), (.int .i64 0)] [], none, (some 11), []⟩,
  ⟨.store 3 (.tmp 4) (.tmp 11), none, none, [4, 11]⟩,
  ⟨.mv (.lit (.int .u8 2)), none, (some 5), []⟩]
def m26r3 : List MOper := [⟨.faddr 2 (.tmp 2), none, (some 12), [2]⟩,
  ⟨.load none (.tmp 12), none, (some 13), [12]⟩,
  ⟨.bin .eql .other (.tmp 13) (.lit (.int .i64 1048576)), none, (some 14), [13]⟩]
def m26r4 : List MOper := [⟨.build [.nils, (.int .i64 0), (.int .i64 0)] [], none, (some 15), []⟩,
  ⟨.store 3 (.tmp 4) (.tmp 15), none, none, [4, 15]⟩,
  ⟨.mv (.lit (.int .u8 10)), none, (some 5), []⟩]
def m26r5 : List MOper := [⟨.faddr 2 (.tmp 2), none, (some 17), [2]⟩,
  ⟨.load none (.tmp 17), none, (some 18), [17]⟩,
  ⟨.load (some 2) (.tmp 3), none, (some 19), [3]⟩,
  ⟨.call 13 [(.tmp 18), (.tmp 19)], none, (some 20), [18, 19]⟩,
  ⟨.mv (.tmp 20), none, (some 16), [20]⟩,
  ⟨.ext 0 (.tmp 16), none, (some 21), [16]⟩,
  ⟨.ext 1 (.tmp 16), none, (some 22), [16]⟩,
  ⟨.mv (.tmp 21), none, (some 6), [21]⟩,
  ⟨.mv (.tmp 22), none, (some 7), [22]⟩]
def m26r6 : List MOper := [⟨.mv (.tmp 7), none, (some 23), [7]⟩,
  ⟨.bin .neq .other (.tmp 23) (.lit (.int .u8 0)), none, (some 24), [23]⟩]
def m26r7 : List MOper := [⟨.build [.nils, (.int .i64 0), (.int .i64 0)] [], none, (some 25), []⟩,
  ⟨.mv (.tmp 7), none, (some 26), [7]⟩,
  ⟨.store 3 (.tmp 4) (.tmp 25), none, none, [4, 25]⟩,
  ⟨.mv (.tmp 26), none, (some 5), [26]⟩]
def m26r8 : List MOper := [⟨.faddr 0 (.tmp 2), none, (some 27), [2]⟩,
  ⟨.load none (.tmp 27), none, (some 28), [27]⟩,
  ⟨.mv (.tmp 6), none, (some 30), [6]⟩,
  ⟨.faddr 1 (.tmp 2), none, (some 32), [2]⟩,
  ⟨.load none (.tmp 32), none, (some 33), [32]⟩,
  ⟨.faddr 2 (.tmp 2), none, (some 34), [2]⟩,
  ⟨.load none (.tmp 34), none, (some 35), [34]⟩,
  ⟨.bin .add .other (.tmp 35) (.lit (.int .i64 1)), none, (some 36), [35]⟩]
def m26r9 : List MOper := [⟨.call 36 [(.tmp 28)], none, (some 29), [28]⟩,
  ⟨.append 1 1 (.tmp 29) (.tmp 30), none, (some 31), [29, 30]⟩,
  ⟨.build [.nils, (.int .i64 0), (.int .i64 0)] [(0, 1, (.tmp 31)), (1, 1, (.tmp 33)), (2, 1, (.tmp 36))], none, (some 37), [31, 33, 36]⟩,
  ⟨.store 3 (.tmp 4) (.tmp 37), none, none, [4, 37]⟩,
  ⟨.mv (.lit (.int .u8 0)), none, (some 5), []⟩]
def m26r10 : List MOper := [⟨.load none (.tmp 32), none, (some 33), [32]⟩,
  ⟨.load none (.tmp 34), none, (some 35), [34]⟩]
def m26r11 : List MOper := [⟨.load none (.tmp 32), none, (some 33), [32]⟩,
  ⟨.load none (.tmp 34), none, (some 35), [34]⟩]
def m26r12 : List MOper := [⟨.load none (.tmp 32), none, (some 33), [32]⟩,
  ⟨.load none (.tmp 34), none, (some 35), [34]⟩]
def m26 : MFunc := ⟨38, [.cell 4 (some 3), .tmp 5],
  (.seq (.region m26r0 [2, 3, 4])
  (.seq (.seq (.region m26r1 [2, 3, 4, 10])
  (.cond (.tmp 10)
  (.seq (.region m26r2 [4, 5])
  .ret)
  .skip))
  (.seq (.seq (.region m26r3 [2, 3, 4, 14])
  (.cond (.tmp 14)
  (.seq (.region m26r4 [4, 5])
  .ret)
  .skip))
  (.seq (.region m26r5 [2, 4, 6, 7])
  (.seq (.seq (.region m26r6 [2, 4, 6, 7, 24])
  (.cond (.tmp 24)
  (.seq (.region m26r7 [4, 5])
  .ret)
  .skip))
  (.seq (.dregion m26r8 m26r9 [m26r10, m26r11, m26r12, [], [], []] [4, 5])
  .ret))))))⟩
def h26 : List RH := [⟨[2, 3, 4], 0, false, []⟩, ⟨[2, 3, 4, 10], 0, false, []⟩, ⟨[4, 5], 0, false, []⟩, ⟨[2, 3, 4, 14], 0, false, []⟩, ⟨[4, 5], 0, false, []⟩, ⟨[2, 4, 6, 7], 0, false, []⟩, ⟨[2, 4, 6, 7, 24], 0, false, []⟩, ⟨[4, 5], 0, false, []⟩, ⟨[4, 5], 8, false, [0, 1, 3, 5, 6, 7, 8, 9, 2, 4, 10, 11, 12]⟩]
theorem m26_ok : cmpFn Try.prog 26 h26 = some m26 := by kernel_rfl

/- dialtone/journal.Valid -/
def m27r0 : List MOper := [⟨.box 3 (.tmp 0), none, (some 1), [0]⟩,
  ⟨.mv (.lit (.bool false)), none, (some 2), []⟩]
def m27r1 : List MOper := [⟨.faddr 1 (.tmp 1), none, (some 3), [1]⟩,
  ⟨.load none (.tmp 3), none, (some 4), [3]⟩,
  ⟨.bin .geq .other (.tmp 4) (.lit (.int .i64 0)), none, (some 5), [4]⟩,
  ⟨.mv (.tmp 5), none, (some 6), [5]⟩,
  ⟨.faddr 1 (.tmp 1), (some (6, true)), (some 7), [1]⟩,
  ⟨.load none (.tmp 7), (some (6, true)), (some 8), [7]⟩,
  ⟨.faddr 0 (.tmp 1), (some (6, true)), (some 9), [1]⟩,
  ⟨.load none (.tmp 9), (some (6, true)), (some 10), [9]⟩,
  ⟨.len 1 (.tmp 10), (some (6, true)), (some 11), [10]⟩,
  ⟨.bin .leq .other (.tmp 8) (.tmp 11), (some (6, true)), (some 12), [8, 11]⟩,
  ⟨.pick (.tmp 6) (.tmp 12) (.lit (.bool false)), none, (some 13), [6, 12]⟩,
  ⟨.mv (.tmp 13), none, (some 14), [13]⟩,
  ⟨.faddr 2 (.tmp 1), (some (14, true)), (some 15), [1]⟩,
  ⟨.load none (.tmp 15), (some (14, true)), (some 16), [15]⟩,
  ⟨.bin .geq .other (.tmp 16) (.lit (.int .i64 0)), (some (14, true)), (some 17), [16]⟩,
  ⟨.pick (.tmp 14) (.tmp 17) (.lit (.bool false)), none, (some 18), [14, 17]⟩,
  ⟨.mv (.tmp 18), none, (some 19), [18]⟩,
  ⟨.faddr 2 (.tmp 1), (some (19, true)), (some 20), [1]⟩,
  ⟨.load none (.tmp 20), (some (19, true)), (some 21), [20]⟩,
  ⟨.bin .leq .other (.tmp 21) (.lit (.int .i64 1048576)), (some (19, true)), (some 22), [21]⟩,
  ⟨.pick (.tmp 19) (.tmp 22) (.lit (.bool false)), none, (some 23), [19, 22]⟩,
  ⟨.mv (.tmp 23), none, (some 2), [23]⟩]
def m27 : MFunc := ⟨24, [.tmp 2],
  (.seq (.region m27r0 [1])
  (.seq (.region m27r1 [2])
  .ret))⟩
def h27 : List RH := [⟨[1], 0, false, []⟩, ⟨[2], 0, false, []⟩]
theorem m27_ok : cmpFn Try.prog 27 h27 = some m27 := by kernel_rfl

/- dialtone/dialtoneref20.Valid -/
def m28r0 : List MOper := [⟨.box 3 (.tmp 0), none, (some 1), [0]⟩,
  ⟨.mv (.lit (.bool false)), none, (some 2), []⟩]
def m28r1 : List MOper := [⟨.faddr 1 (.tmp 1), none, (some 3), [1]⟩,
  ⟨.load none (.tmp 3), none, (some 4), [3]⟩,
  ⟨.bin .geq .other (.tmp 4) (.lit (.int .i64 0)), none, (some 5), [4]⟩,
  ⟨.mv (.tmp 5), none, (some 6), [5]⟩,
  ⟨.faddr 1 (.tmp 1), (some (6, true)), (some 7), [1]⟩,
  ⟨.load none (.tmp 7), (some (6, true)), (some 8), [7]⟩,
  ⟨.faddr 0 (.tmp 1), (some (6, true)), (some 9), [1]⟩,
  ⟨.load none (.tmp 9), (some (6, true)), (some 10), [9]⟩,
  ⟨.len 1 (.tmp 10), (some (6, true)), (some 11), [10]⟩,
  ⟨.bin .leq .other (.tmp 8) (.tmp 11), (some (6, true)), (some 12), [8, 11]⟩,
  ⟨.pick (.tmp 6) (.tmp 12) (.lit (.bool false)), none, (some 13), [6, 12]⟩,
  ⟨.mv (.tmp 13), none, (some 14), [13]⟩,
  ⟨.faddr 2 (.tmp 1), (some (14, true)), (some 15), [1]⟩,
  ⟨.load none (.tmp 15), (some (14, true)), (some 16), [15]⟩,
  ⟨.bin .geq .other (.tmp 16) (.lit (.int .i64 0)), (some (14, true)), (some 17), [16]⟩,
  ⟨.pick (.tmp 14) (.tmp 17) (.lit (.bool false)), none, (some 18), [14, 17]⟩,
  ⟨.mv (.tmp 18), none, (some 19), [18]⟩,
  ⟨.faddr 2 (.tmp 1), (some (19, true)), (some 20), [1]⟩,
  ⟨.load none (.tmp 20), (some (19, true)), (some 21), [20]⟩,
  ⟨.bin .leq .other (.tmp 21) (.lit (.int .i64 1048576)), (some (19, true)), (some 22), [21]⟩,
  ⟨.pick (.tmp 19) (.tmp 22) (.lit (.bool false)), none, (some 23), [19, 22]⟩,
  ⟨.mv (.tmp 23), none, (some 2), [23]⟩]
def m28 : MFunc := ⟨24, [.tmp 2],
  (.seq (.region m28r0 [1])
  (.seq (.region m28r1 [2])
  .ret))⟩
def h28 : List RH := [⟨[1], 0, false, []⟩, ⟨[2], 0, false, []⟩]
theorem m28_ok : cmpFn Try.prog 28 h28 = some m28 := by kernel_rfl

/- dialtone/journal.Sync -/
def m29r0 : List MOper := [⟨.box 3 (.tmp 0), none, (some 1), [0]⟩,
  ⟨.zbox [.nils, (.int .i64 0), (.int .i64 0)], none, (some 2), []⟩]
def m29r1 : List MOper := [⟨.load (some 3) (.tmp 1), none, (some 3), [1]⟩,
  ⟨.call 27 [(.tmp 3)], none, (some 4), [3]⟩,
  ⟨.un .not (.tmp 4), none, (some 5), [4]⟩]
def m29r2 : List MOper := [⟨.build [.nils, (.int .i64 0), (.int .i64 0)] [], none, (some 6), []⟩,
  ⟨.store 3 (.tmp 2) (.tmp 6), none, none, [2, 6]⟩]
def m29r3 : List MOper := [⟨.faddr 0 (.tmp 1), none, (some 7), [1]⟩,
  ⟨.load none (.tmp 7), none, (some 8), [7]⟩,
  ⟨.append 1 1 (.lit .nils) (.tmp 8), none, (some 9), [8]⟩,
  ⟨.faddr 0 (.tmp 1), none, (some 10), [1]⟩,
  ⟨.load none (.tmp 10), none, (some 11), [10]⟩,
  ⟨.len 1 (.tmp 11), none, (some 12), [11]⟩,
  ⟨.faddr 2 (.tmp 1), none, (some 13), [1]⟩,
  ⟨.load none (.tmp 13), none, (some 14), [13]⟩]
def m29r4 : List MOper := [⟨.build [.nils, (.int .i64 0), (.int .i64 0)] [(0, 1, (.tmp 9)), (1, 1, (.tmp 12)), (2, 1, (.tmp 14))], none, (some 15), [9, 12, 14]⟩,
  ⟨.store 3 (.tmp 2) (.tmp 15), none, none, [2, 15]⟩]
def m29 : MFunc := ⟨16, [.cell 2 (some 3)],
  (.seq (.region m29r0 [1, 2])
  (.seq (.seq (.region m29r1 [1, 2, 5])
  (.cond (.tmp 5)
  (.seq (.region m29r2 [2])
  .ret)
  .skip))
  (.seq (.dregion m29r3 m29r4 [] [2])
  .ret)))⟩
def h29 : List RH := [⟨[1, 2], 0, false, []⟩, ⟨[1, 2, 5], 0, false, []⟩, ⟨[2], 0, false, []⟩, ⟨[2], 8, false, []⟩]
theorem m29_ok : cmpFn Try.prog 29 h29 = some m29 := by kernel_rfl

/- dialtone/dialtoneref20.Sync -/
def m30r0 : List MOper := [⟨.box 3 (.tmp 0), none, (some 1), [0]⟩,
  ⟨.zbox [.nils, (.int .i64 0), (.int .i64 0)], none, (some 2), []⟩]
def m30r1 : List MOper := [⟨.load (some 3) (.tmp 1), none, (some 3), [1]⟩,
  ⟨.call 28 [(.tmp 3)], none, (some 4), [3]⟩,
  ⟨.un .not (.tmp 4), none, (some 5), [4]⟩]
def m30r2 : List MOper := [⟨.build [.nils, (.int .i64 0), (.int .i64 0)] [], none, (some 6), []⟩,
  ⟨.store 3 (.tmp 2) (.tmp 6), none, none, [2, 6]⟩]
def m30r3 : List MOper := [⟨.faddr 0 (.tmp 1), none, (some 7), [1]⟩,
  ⟨.load none (.tmp 7), none, (some 8), [7]⟩,
  ⟨.call 36 [(.tmp 8)], none, (some 9), [8]⟩,
  ⟨.faddr 0 (.tmp 1), none, (some 10), [1]⟩,
  ⟨.load none (.tmp 10), none, (some 11), [10]⟩,
  ⟨.len 1 (.tmp 11), none, (some 12), [11]⟩,
  ⟨.faddr 2 (.tmp 1), none, (some 13), [1]⟩,
  ⟨.load none (.tmp 13), none, (some 14), [13]⟩]
def m30r4 : List MOper := [⟨.build [.nils, (.int .i64 0), (.int .i64 0)] [(0, 1, (.tmp 9)), (1, 1, (.tmp 12)), (2, 1, (.tmp 14))], none, (some 15), [9, 12, 14]⟩,
  ⟨.store 3 (.tmp 2) (.tmp 15), none, none, [2, 15]⟩]
def m30 : MFunc := ⟨16, [.cell 2 (some 3)],
  (.seq (.region m30r0 [1, 2])
  (.seq (.seq (.region m30r1 [1, 2, 5])
  (.cond (.tmp 5)
  (.seq (.region m30r2 [2])
  .ret)
  .skip))
  (.seq (.dregion m30r3 m30r4 [] [2])
  .ret)))⟩
def h30 : List RH := [⟨[1, 2], 0, false, []⟩, ⟨[1, 2, 5], 0, false, []⟩, ⟨[2], 0, false, []⟩, ⟨[2], 8, false, []⟩]
theorem m30_ok : cmpFn Try.prog 30 h30 = some m30 := by kernel_rfl

/- dialtone/dialtoneref20.Crash -/
def m31r0 : List MOper := [⟨.box 3 (.tmp 0), none, (some 2), [0]⟩,
  ⟨.mv (.lit .nils), none, (some 4), []⟩]
def m31r1 : List MOper := [⟨.load (some 3) (.tmp 2), none, (some 6), [2]⟩,
  ⟨.call 28 [(.tmp 6)], none, (some 7), [6]⟩,
  ⟨.un .not (.tmp 7), none, (some 8), [7]⟩]
def m31r2 : List MOper := [⟨.mv (.lit .nils), none, (some 4), []⟩]
def m31r3 : List MOper := [⟨.mv (.tmp 1), none, (some 9), [1]⟩,
  ⟨.faddr 0 (.tmp 2), none, (some 10), [2]⟩,
  ⟨.load none (.tmp 10), none, (some 11), [10]⟩,
  ⟨.len 1 (.tmp 11), none, (some 12), [11]⟩,
  ⟨.minmax false (.tmp 9) [(.tmp 12)], none, (some 13), [9, 12]⟩,
  ⟨.mv (.tmp 13), none, (some 5), [13]⟩]
def m31r4 : List MOper := [⟨.mv (.tmp 5), none, (some 14), [5]⟩,
  ⟨.faddr 1 (.tmp 2), none, (some 15), [2]⟩,
  ⟨.load none (.tmp 15), none, (some 16), [15]⟩,
  ⟨.bin .lss .other (.tmp 14) (.tmp 16), none, (some 17), [14, 16]⟩]
def m31r5 : List MOper := [⟨.faddr 1 (.tmp 2), none, (some 18), [2]⟩,
  ⟨.load none (.tmp 18), none, (some 19), [18]⟩,
  ⟨.mv (.tmp 19), none, (some 5), [19]⟩]
def m31r6 : List MOper := [⟨.faddr 0 (.tmp 2), none, (some 20), [2]⟩,
  ⟨.load none (.tmp 20), none, (some 21), [20]⟩,
  ⟨.mv (.tmp 5), none, (some 22), [5]⟩,
  ⟨.slc 1 (.tmp 21) none (some (.tmp 22)) none, none, (some 23), [21, 22]⟩,
  ⟨.call 36 [(.tmp 23)], none, (some 24), [23]⟩,
  ⟨.mv (.tmp 24), none, (some 4), [24]⟩]
def m31 : MFunc := ⟨25, [.tmp 4],
  (.seq (.region m31r0 [1, 2])
  (.seq (.seq (.region m31r1 [1, 2, 8])
  (.cond (.tmp 8)
  (.seq (.region m31r2 [4])
  .ret)
  .skip))
  (.seq (.region m31r3 [2, 5])
  (.seq (.seq (.region m31r4 [2, 5, 17])
  (.cond (.tmp 17)
  (.region m31r5 [2, 5])
  .skip))
  (.seq (.region m31r6 [4])
  .ret)))))⟩
def h31 : List RH := [⟨[1, 2], 0, false, []⟩, ⟨[1, 2, 8], 0, false, []⟩, ⟨[4], 0, false, []⟩, ⟨[2, 5], 0, false, []⟩, ⟨[2, 5, 17], 0, false, []⟩, ⟨[2, 5], 0, false, []⟩, ⟨[4], 0, false, []⟩]
theorem m31_ok : cmpFn Try.prog 31 h31 = some m31 := by kernel_rfl

/- dialtone/journal.put -/
def m32r0 : List MOper := [⟨.mv (.lit .nils), none, (some 6), []⟩]
def m32r1 : List MOper := [⟨.mv (.tmp 2), none, (some 10), [2]⟩,
  ⟨.len 1 (.tmp 10), none, (some 11), [10]⟩,
  ⟨.mv (.lit (.int .i64 0)), none, (some 12), []⟩]
def m32r2 : List MOper := [⟨.bin .lss .other (.tmp 12) (.tmp 11), none, (some 13), [12, 11]⟩]
def m32r3 : List MOper := [⟨.iaddr 1 (.tmp 10) (.tmp 12), none, (some 14), [10, 12]⟩,
  ⟨.load none (.tmp 14), none, (some 15), [14]⟩,
  ⟨.mv (.tmp 15), none, (some 8), [15]⟩]
def m32r4 : List MOper := [⟨.mv (.tmp 1), none, (some 16), [1]⟩,
  ⟨.bin .sub .other (.tmp 16) (.lit (.int .i64 1)), none, (some 17), [16]⟩,
  ⟨.mv (.tmp 17), none, (some 9), [17]⟩]
def m32r5 : List MOper := [⟨.mv (.tmp 9), none, (some 18), [9]⟩,
  ⟨.bin .geq .other (.tmp 18) (.lit (.int .i64 0)), none, (some 19), [18]⟩]
def m32r6 : List MOper := [⟨.mv (.tmp 0), none, (some 22), [0]⟩,
  ⟨.mv (.tmp 8), none, (some 23), [8]⟩,
  ⟨.mv (.tmp 9), none, (some 24), [9]⟩,
  ⟨.bin .mul .other (.lit (.int .i64 8)) (.tmp 24), none, (some 25), [24]⟩,
  ⟨.bin .shr .other (.tmp 23) (.tmp 25), none, (some 26), [23, 25]⟩,
  ⟨.conv .u8 (.tmp 26), none, (some 27), [26]⟩,
  ⟨.mkfrz [(.int .u8 0)] 1 [(0, (.tmp 27))], none, (some 28), [27]⟩,
  ⟨.append 1 1 (.tmp 22) (.tmp 28), none, (some 29), [22, 28]⟩,
  ⟨.mv (.tmp 29), none, (some 0), [29]⟩]
def m32r7 : List MOper := [⟨.mv (.tmp 9), none, (some 20), [9]⟩,
  ⟨.bin .sub .other (.tmp 20) (.lit (.int .i64 1)), none, (some 21), [20]⟩,
  ⟨.mv (.tmp 21), none, (some 9), [21]⟩]
def m32l8 : MCode := (.seq (.seq (.region m32r5 [0, 1, 8, 9, 10, 11, 12, 19])
  (.cond (.tmp 19)
  .skip
  (.exit 2)))
  (.seq (.block 3 (.region m32r6 [0, 1, 8, 9, 10, 11, 12]))
  (.region m32r7 [0, 1, 8, 9, 10, 11, 12])))
def m32r9 : List MOper := [⟨.bin .add .other (.tmp 12) (.lit (.int .i64 1)), none, (some 30), [12]⟩,
  ⟨.mv (.tmp 30), none, (some 12), [30]⟩]
def m32l10 : MCode := (.seq (.region m32r2 [0, 1, 10, 11, 12, 13])
  (.seq (.cond (.tmp 13)
  .skip
  (.exit 0))
  (.seq (.block 1 (.seq (.region m32r3 [0, 1, 8, 10, 11, 12])
  (.seq (.region m32r4 [0, 1, 8, 9, 10, 11, 12])
  (.block 2 (.loop [0, 1, 8, 9, 10, 11, 12] m32l8)))))
  (.region m32r9 [0, 1, 10, 11, 12]))))
def m32r11 : List MOper := [⟨.mv (.tmp 0), none, (some 31), [0]⟩,
  ⟨.mv (.tmp 31), none, (some 6), [31]⟩]
def m32 : MFunc := ⟨32, [.tmp 6],
  (.seq (.region m32r0 [0, 1, 2])
  (.seq (.seq (.region m32r1 [0, 1, 10, 11, 12])
  (.block 0 (.loop [0, 1, 10, 11, 12] m32l10)))
  (.seq (.region m32r11 [6])
  .ret)))⟩
def h32 : List RH := [⟨[0, 1, 2], 0, false, []⟩, ⟨[0, 1, 10, 11, 12], 0, false, []⟩, ⟨[0, 1, 10, 11, 12], 0, false, []⟩, ⟨[0, 1, 10, 11, 12, 13], 0, false, []⟩, ⟨[0, 1, 8, 10, 11, 12], 0, false, []⟩, ⟨[0, 1, 8, 9, 10, 11, 12], 0, false, []⟩, ⟨[0, 1, 8, 9, 10, 11, 12], 0, false, []⟩, ⟨[0, 1, 8, 9, 10, 11, 12, 19], 0, false, []⟩, ⟨[0, 1, 8, 9, 10, 11, 12], 0, false, []⟩, ⟨[0, 1, 8, 9, 10, 11, 12], 0, false, []⟩, ⟨[0, 1, 10, 11, 12], 0, false, []⟩, ⟨[6], 0, false, []⟩]
theorem m32_ok : cmpFn Try.prog 32 h32 = some m32 := by kernel_rfl

/- dialtone/dialtoneref20.number -/
def m33r0 : List MOper := [⟨.mv (.lit .nils), none, (some 4), []⟩]
def m33r1 : List MOper := [⟨.mv (.lit .nils), none, (some 5), []⟩]
def m33r2 : List MOper := [⟨.mv (.lit (.int .i64 0)), none, (some 6), []⟩]
def m33r3 : List MOper := [⟨.mv (.tmp 6), none, (some 7), [6]⟩,
  ⟨.mv (.tmp 1), none, (some 8), [1]⟩,
  ⟨.bin .lss .other (.tmp 7) (.tmp 8), none, (some 9), [7, 8]⟩]
def m33r4 : List MOper := [⟨.mv (.tmp 0), none, (some 12), [0]⟩,
  ⟨.bin .rem .other (.tmp 12) (.lit (.int .i64 256)), none, (some 13), [12]⟩,
  ⟨.conv .u8 (.tmp 13), none, (some 14), [13]⟩,
  ⟨.mkslice [(.int .u8 0)] 1 [(0, (.tmp 14))], none, (some 15), [14]⟩,
  ⟨.mv (.tmp 5), none, (some 16), [5]⟩,
  ⟨.append 1 1 (.tmp 15) (.tmp 16), none, (some 17), [15, 16]⟩,
  ⟨.mv (.tmp 17), none, (some 5), [17]⟩]
def m33r5 : List MOper := [⟨.mv (.tmp 0), none, (some 18), [0]⟩,
  ⟨.bin .quo .other (.tmp 18) (.lit (.int .i64 256)), none, (some 19), [18]⟩,
  ⟨.mv (.tmp 19), none, (some 0), [19]⟩]
def m33r6 : List MOper := [⟨.mv (.tmp 6), none, (some 10), [6]⟩,
  ⟨.bin .add .other (.tmp 10) (.lit (.int .i64 1)), none, (some 11), [10]⟩,
  ⟨.mv (.tmp 11), none, (some 6), [11]⟩]
def m33l7 : MCode := (.seq (.seq (.region m33r3 [0, 1, 5, 6, 9])
  (.cond (.tmp 9)
  .skip
  (.exit 0)))
  (.seq (.block 1 (.seq (.region m33r4 [0, 1, 5, 6])
  (.region m33r5 [0, 1, 5, 6])))
  (.seq .conv
  (.region m33r6 [0, 1, 5, 6]))))
def m33r8 : List MOper := [⟨.mv (.tmp 5), none, (some 20), [5]⟩,
  ⟨.mv (.tmp 20), none, (some 4), [20]⟩]
def m33 : MFunc := ⟨21, [.tmp 4],
  (.seq (.region m33r0 [0, 1])
  (.seq (.region m33r1 [0, 1, 5])
  (.seq (.seq (.seq .conv
  (.region m33r2 [0, 1, 5, 6]))
  (.block 0 (.loop [0, 1, 5, 6] m33l7)))
  (.seq (.region m33r8 [4])
  .ret))))⟩
def h33 : List RH := [⟨[0, 1], 0, false, []⟩, ⟨[0, 1, 5], 0, false, []⟩, ⟨[0, 1, 5, 6], 0, true, []⟩, ⟨[0, 1, 5, 6], 0, false, []⟩, ⟨[0, 1, 5, 6, 9], 0, false, []⟩, ⟨[0, 1, 5, 6], 0, false, []⟩, ⟨[0, 1, 5, 6], 0, false, []⟩, ⟨[0, 1, 5, 6], 0, true, []⟩, ⟨[4], 0, false, []⟩]
theorem m33_ok : cmpFn Try.prog 33 h33 = some m33 := by kernel_rfl

/- (*dialtone/journal.cursor).next -/
def m34r0 : List MOper := [⟨.zbox [(.int .u8 0), .nils], none, (some 2), []⟩,
  ⟨.mv (.lit (.int .u8 0)), none, (some 3), []⟩]
def m34r1 : List MOper := [⟨.mv (.tmp 0), none, (some 8), [0]⟩,
  ⟨.nilchk (.tmp 8), none, (some 9), [8]⟩,
  ⟨.faddr 0 (.tmp 9), none, (some 10), [9]⟩,
  ⟨.load none (.tmp 10), none, (some 11), [10]⟩,
  ⟨.mv (.tmp 11), none, (some 4), [11]⟩]
def m34r2 : List MOper := [⟨.mv (.tmp 0), none, (some 12), [0]⟩,
  ⟨.nilchk (.tmp 12), none, (some 13), [12]⟩,
  ⟨.faddr 1 (.tmp 13), none, (some 14), [13]⟩,
  ⟨.load none (.tmp 14), none, (some 15), [14]⟩,
  ⟨.bin .geq .other (.tmp 15) (.lit (.int .i64 1048576)), none, (some 16), [15]⟩,
  ⟨.mv (.tmp 16), none, (some 17), [16]⟩,
  ⟨.mv (.tmp 0), (some (17, false)), (some 18), [0]⟩,
  ⟨.call 37 [(.tmp 18)], (some (17, false)), (some 19), [18]⟩,
  ⟨.pick (.tmp 17) (.lit (.bool true)) (.tmp 19), none, (some 20), [17, 19]⟩]
def m34r3 : List MOper := [⟨.build [(.int .u8 0), .nils] [], none, (some 21), []⟩,
  ⟨.store 2 (.tmp 2) (.tmp 21), none, none, [2, 21]⟩,
  ⟨.mv (.lit (.int .u8 5)), none, (some 3), []⟩]
def m34r4 : List MOper := [⟨.mv (.tmp 4), none, (some 22), [4]⟩,
  ⟨.len 1 (.tmp 22), none, (some 23), [22]⟩,
  ⟨.bin .lss .other (.tmp 23) (.lit (.int .i64 10)), none, (some 24), [23]⟩]
def m34r5 : List MOper := [⟨.build [(.int .u8 0), .nils] [], none, (some 25), []⟩,
  ⟨.store 2 (.tmp 2) (.tmp 25), none, none, [2, 25]⟩,
  ⟨.mv (.lit (.int .u8 6)), none, (some 3), []⟩]
def m34r6 : List MOper := [⟨.mv (.tmp 4), none, (some 26), [4]⟩,
  ⟨.iaddr 1 (.tmp 26) (.lit (.int .i64 6)), none, (some 27), [26]⟩,
  ⟨.load none (.tmp 27), none, (some 28), [27]⟩,
  ⟨.conv .i64 (.tmp 28), none, (some 29), [28]⟩,
  ⟨.bin .shl .other (.tmp 29) (.lit (.int .u64 8)), none, (some 30), [29]⟩,
  ⟨.bin .add .other (.lit (.int .i64 10)) (.tmp 30), none, (some 31), [30]⟩,
  ⟨.mv (.tmp 4), none, (some 32), [4]⟩,
  ⟨.iaddr 1 (.tmp 32) (.lit (.int .i64 7)), none, (some 33), [32]⟩,
  ⟨.load none (.tmp 33), none, (some 34), [33]⟩,
  ⟨.conv .i64 (.tmp 34), none, (some 35), [34]⟩]
def m34r7 : List MOper := [⟨.bin .add .other (.tmp 31) (.tmp 35), none, (some 36), [31, 35]⟩,
  ⟨.mv (.tmp 36), none, (some 5), [36]⟩]
def m34r8 : List MOper := [⟨.mv (.tmp 4), none, (some 37), [4]⟩,
  ⟨.len 1 (.tmp 37), none, (some 38), [37]⟩,
  ⟨.mv (.tmp 5), none, (some 39), [5]⟩,
  ⟨.bin .add .other (.tmp 39) (.lit (.int .i64 4)), none, (some 40), [39]⟩,
  ⟨.bin .lss .other (.tmp 38) (.tmp 40), none, (some 41), [38, 40]⟩]
def m34r9 : List MOper := [⟨.build [(.int .u8 0), .nils] [], none, (some 42), []⟩,
  ⟨.store 2 (.tmp 2) (.tmp 42), none, none, [2, 42]⟩,
  ⟨.mv (.lit (.int .u8 6)), none, (some 3), []⟩]
def m34r10 : List MOper := [⟨.mv (.tmp 4), none, (some 43), [4]⟩,
  ⟨.mv (.tmp 5), none, (some 44), [5]⟩,
  ⟨.mv (.tmp 5), none, (some 45), [5]⟩,
  ⟨.slc 1 (.tmp 43) none (some (.tmp 44)) (some (.tmp 45)), none, (some 46), [43, 44, 45]⟩,
  ⟨.call 14 [(.tmp 46)], none, (some 47), [46]⟩,
  ⟨.mkfrz [(.int .u32 0)] 1 [(0, (.tmp 47))], none, (some 48), [47]⟩,
  ⟨.call 32 [(.lit .nils), (.lit (.int .i64 4)), (.tmp 48)], none, (some 49), [48]⟩,
  ⟨.mv (.tmp 49), none, (some 6), [49]⟩]
def m34r11 : List MOper := [⟨.mv (.tmp 6), none, (some 50), [6]⟩,
  ⟨.tostr (.tmp 50), none, (some 51), [50]⟩,
  ⟨.mv (.tmp 4), none, (some 52), [4]⟩,
  ⟨.mv (.tmp 5), none, (some 53), [5]⟩,
  ⟨.mv (.tmp 5), none, (some 54), [5]⟩,
  ⟨.bin .add .other (.tmp 54) (.lit (.int .i64 4)), none, (some 55), [54]⟩,
  ⟨.mv (.tmp 5), none, (some 56), [5]⟩,
  ⟨.bin .add .other (.tmp 56) (.lit (.int .i64 4)), none, (some 57), [56]⟩,
  ⟨.slc 1 (.tmp 52) (some (.tmp 53)) (some (.tmp 55)) (some (.tmp 57)), none, (some 58), [52, 53, 55, 57]⟩,
  ⟨.tostr (.tmp 58), none, (some 59), [58]⟩]
def m34r12 : List MOper := [⟨.bin .neq .other (.tmp 51) (.tmp 59), none, (some 60), [51, 59]⟩]
def m34r13 : List MOper := [⟨.build [(.int .u8 0), .nils] [], none, (some 61), []⟩,
  ⟨.store 2 (.tmp 2) (.tmp 61), none, none, [2, 61]⟩,
  ⟨.mv (.lit (.int .u8 11)), none, (some 3), []⟩]
def m34r14 : List MOper := [⟨.mv (.tmp 4), none, (some 62), [4]⟩,
  ⟨.iaddr 1 (.tmp 62) (.lit (.int .i64 1)), none, (some 63), [62]⟩,
  ⟨.load none (.tmp 63), none, (some 64), [63]⟩,
  ⟨.mv (.tmp 5), none, (some 65), [5]⟩,
  ⟨.bin .sub .other (.tmp 65) (.lit (.int .i64 10)), none, (some 66), [65]⟩,
  ⟨.make [(.int .u8 0)] 1 (.tmp 66) (.tmp 66), none, (some 67), [66, 66]⟩,
  ⟨.build [(.int .u8 0), .nils] [(0, 1, (.tmp 64)), (1, 1, (.tmp 67))], none, (some 68), [64, 67]⟩,
  ⟨.zbox [(.int .u8 0), .nils], none, (some 7), []⟩]
def m34r15 : List MOper := [⟨.store 2 (.tmp 7) (.tmp 68), none, none, [7, 68]⟩]
def m34r16 : List MOper := [⟨.faddr 1 (.tmp 7), none, (some 69), [7]⟩,
  ⟨.load none (.tmp 69), none, (some 70), [69]⟩,
  ⟨.mv (.tmp 4), none, (some 71), [4]⟩,
  ⟨.mv (.tmp 5), none, (some 72), [5]⟩]
def m34r17 : List MOper := [⟨.mv (.tmp 5), none, (some 73), [5]⟩,
  ⟨.slc 1 (.tmp 71) (some (.lit (.int .i64 10))) (some (.tmp 72)) (some (.tmp 73)), none, (some 74), [71, 72, 73]⟩,
  ⟨.copy 1 (.tmp 70) (.tmp 74), none, (some 75), [70, 74]⟩]
def m34r18 : List MOper := [⟨.load none (.tmp 69), none, (some 70), [69]⟩]
def m34r19 : List MOper := [⟨.load none (.tmp 69), none, (some 70), [69]⟩]
def m34r20 : List MOper := [⟨.load none (.tmp 69), none, (some 70), [69]⟩]
def m34r21 : List MOper := [⟨.mv (.tmp 0), none, (some 76), [0]⟩,
  ⟨.mv (.tmp 4), none, (some 77), [4]⟩,
  ⟨.mv (.tmp 5), none, (some 78), [5]⟩,
  ⟨.bin .add .other (.tmp 78) (.lit (.int .i64 4)), none, (some 79), [78]⟩,
  ⟨.slc 1 (.tmp 77) (some (.tmp 79)) none none, none, (some 80), [77, 79]⟩,
  ⟨.nilchk (.tmp 76), none, (some 81), [76]⟩,
  ⟨.faddr 0 (.tmp 81), none, (some 82), [81]⟩,
  ⟨.store 1 (.tmp 82) (.tmp 80), none, none, [82, 80]⟩]
def m34r22 : List MOper := [⟨.mv (.tmp 0), none, (some 83), [0]⟩,
  ⟨.nilchk (.tmp 83), none, (some 84), [83]⟩,
  ⟨.faddr 1 (.tmp 84), none, (some 85), [84]⟩,
  ⟨.load none (.tmp 85), none, (some 86), [85]⟩,
  ⟨.bin .add .other (.tmp 86) (.lit (.int .i64 1)), none, (some 87), [86]⟩,
  ⟨.nilchk (.tmp 83), none, (some 88), [83]⟩,
  ⟨.faddr 1 (.tmp 88), none, (some 89), [88]⟩,
  ⟨.store 1 (.tmp 89) (.tmp 87), none, none, [89, 87]⟩]
def m34r23 : List MOper := [⟨.load (some 2) (.tmp 7), none, (some 90), [7]⟩,
  ⟨.store 2 (.tmp 2) (.tmp 90), none, none, [2, 90]⟩,
  ⟨.mv (.lit (.int .u8 0)), none, (some 3), []⟩]
def m34 : MFunc := ⟨91, [.cell 2 (some 2), .tmp 3],
  (.seq (.region m34r0 [0, 2])
  (.seq (.region m34r1 [0, 2, 4])
  (.seq (.seq (.region m34r2 [0, 2, 4, 20])
  (.cond (.tmp 20)
  (.seq (.region m34r3 [2, 3])
  .ret)
  .skip))
  (.seq (.seq (.region m34r4 [0, 2, 4, 24])
  (.cond (.tmp 24)
  (.seq (.region m34r5 [2, 3])
  .ret)
  .skip))
  (.seq (.dregion m34r6 m34r7 [] [0, 2, 4, 5])
  (.seq (.seq (.region m34r8 [0, 2, 4, 5, 41])
  (.cond (.tmp 41)
  (.seq (.region m34r9 [2, 3])
  .ret)
  .skip))
  (.seq (.region m34r10 [0, 2, 4, 5, 6])
  (.seq (.seq (.dregion m34r11 m34r12 [] [0, 2, 4, 5, 60])
  (.cond (.tmp 60)
  (.seq (.region m34r13 [2, 3])
  .ret)
  .skip))
  (.seq (.dregion m34r14 m34r15 [] [0, 2, 4, 5, 7])
  (.seq (.dregion m34r16 m34r17 [m34r18, m34r19, m34r20, []] [0, 2, 4, 5, 7])
  (.seq (.region m34r21 [0, 2, 7])
  (.seq (.region m34r22 [2, 7])
  (.seq (.region m34r23 [2, 3])
  .ret)))))))))))))⟩
def h34 : List RH := [⟨[0, 2], 0, false, []⟩, ⟨[0, 2, 4], 0, false, []⟩, ⟨[0, 2, 4, 20], 0, false, []⟩, ⟨[2, 3], 0, false, []⟩, ⟨[0, 2, 4, 24], 0, false, []⟩, ⟨[2, 3], 0, false, []⟩, ⟨[0, 2, 4, 5], 10, false, []⟩, ⟨[0, 2, 4, 5, 41], 0, false, []⟩, ⟨[2, 3], 0, false, []⟩, ⟨[0, 2, 4, 5, 6], 0, false, []⟩, ⟨[0, 2, 4, 5, 60], 10, false, []⟩, ⟨[2, 3], 0, false, []⟩, ⟨[0, 2, 4, 5, 7], 8, false, []⟩, ⟨[0, 2, 4, 5, 7], 4, false, []⟩, ⟨[0, 2, 7], 0, false, []⟩, ⟨[2, 7], 0, false, []⟩, ⟨[2, 3], 0, false, []⟩]
theorem m34_ok : cmpFn Try.prog 34 h34 = some m34 := by kernel_rfl

/- dialtone/dialtoneref20.One -/
def m35r0 : List MOper := [⟨.zbox [(.int .u8 0), .nils], none, (some 4), []⟩,
  ⟨.mv (.lit (.int .i64 0)), none, (some 5), []⟩,
  ⟨.mv (.lit (.int .u8 0)), none, (some 6), []⟩]
def m35r1 : List MOper := [⟨.mv (.tmp 1), none, (some 12), [1]⟩,
  ⟨.bin .geq .other (.tmp 12) (.lit (.int .i64 1048576)), none, (some 13), [12]⟩,
  ⟨.mv (.tmp 13), none, (some 14), [13]⟩,
  ⟨.mv (.tmp 0), (some (14, false)), (some 15), [0]⟩,
  ⟨.mv (.tmp 1), (some (14, false)), (some 16), [1]⟩,
  ⟨.call 38 [(.tmp 15), (.tmp 16)], (some (14, false)), (some 17), [15, 16]⟩,
  ⟨.pick (.tmp 14) (.lit (.bool true)) (.tmp 17), none, (some 18), [14, 17]⟩]
def m35r2 : List MOper := [⟨.build [(.int .u8 0), .nils] [], none, (some 19), []⟩,
  ⟨.store 2 (.tmp 4) (.tmp 19), none, none, [4, 19]⟩,
  ⟨.mv (.lit (.int .i64 0)), none, (some 5), []⟩,
  ⟨.mv (.lit (.int .u8 5)), none, (some 6), []⟩]
def m35r3 : List MOper := [⟨.mv (.tmp 0), none, (some 20), [0]⟩,
  ⟨.len 1 (.tmp 20), none, (some 21), [20]⟩,
  ⟨.bin .lss .other (.tmp 21) (.lit (.int .i64 14)), none, (some 22), [21]⟩]
def m35r4 : List MOper := [⟨.build [(.int .u8 0), .nils] [], none, (some 23), []⟩,
  ⟨.store 2 (.tmp 4) (.tmp 23), none, none, [4, 23]⟩,
  ⟨.mv (.lit (.int .i64 0)), none, (some 5), []⟩,
  ⟨.mv (.lit (.int .u8 6)), none, (some 6), []⟩]
def m35r5 : List MOper := [⟨.mv (.tmp 0), none, (some 24), [0]⟩,
  ⟨.iaddr 1 (.tmp 24) (.lit (.int .i64 6)), none, (some 25), [24]⟩,
  ⟨.load none (.tmp 25), none, (some 26), [25]⟩,
  ⟨.conv .i64 (.tmp 26), none, (some 27), [26]⟩,
  ⟨.bin .mul .other (.lit (.int .i64 256)) (.tmp 27), none, (some 28), [27]⟩,
  ⟨.mv (.tmp 0), none, (some 29), [0]⟩,
  ⟨.iaddr 1 (.tmp 29) (.lit (.int .i64 7)), none, (some 30), [29]⟩,
  ⟨.load none (.tmp 30), none, (some 31), [30]⟩,
  ⟨.conv .i64 (.tmp 31), none, (some 32), [31]⟩]
def m35r6 : List MOper := [⟨.bin .add .other (.tmp 28) (.tmp 32), none, (some 33), [28, 32]⟩,
  ⟨.mv (.tmp 33), none, (some 7), [33]⟩]
def m35r7 : List MOper := [⟨.mv (.tmp 0), none, (some 34), [0]⟩,
  ⟨.len 1 (.tmp 34), none, (some 35), [34]⟩,
  ⟨.mv (.tmp 7), none, (some 36), [7]⟩,
  ⟨.bin .add .other (.lit (.int .i64 14)) (.tmp 36), none, (some 37), [36]⟩,
  ⟨.bin .lss .other (.tmp 35) (.tmp 37), none, (some 38), [35, 37]⟩]
def m35r8 : List MOper := [⟨.build [(.int .u8 0), .nils] [], none, (some 39), []⟩,
  ⟨.store 2 (.tmp 4) (.tmp 39), none, none, [4, 39]⟩,
  ⟨.mv (.lit (.int .i64 0)), none, (some 5), []⟩,
  ⟨.mv (.lit (.int .u8 6)), none, (some 6), []⟩]
def m35r9 : List MOper := [⟨.zbox [(.int .u8 0), .nils], none, (some 8), []⟩]
def m35r10 : List MOper := [⟨.mv (.tmp 0), none, (some 40), [0]⟩,
  ⟨.iaddr 1 (.tmp 40) (.lit (.int .i64 1)), none, (some 41), [40]⟩,
  ⟨.load none (.tmp 41), none, (some 42), [41]⟩,
  ⟨.faddr 0 (.tmp 8), none, (some 43), [8]⟩,
  ⟨.store 1 (.tmp 43) (.tmp 42), none, none, [43, 42]⟩]
def m35r11 : List MOper := [⟨.faddr 1 (.tmp 8), none, (some 44), [8]⟩,
  ⟨.load none (.tmp 44), none, (some 45), [44]⟩,
  ⟨.mv (.tmp 0), none, (some 46), [0]⟩]
def m35r12 : List MOper := [⟨.mv (.tmp 7), none, (some 47), [7]⟩,
  ⟨.bin .add .other (.lit (.int .i64 10)) (.tmp 47), none, (some 48), [47]⟩,
  ⟨.slc 1 (.tmp 46) (some (.lit (.int .i64 10))) (some (.tmp 48)) none, none, (some 49), [46, 48]⟩,
  ⟨.append 1 1 (.tmp 45) (.tmp 49), none, (some 50), [45, 49]⟩,
  ⟨.faddr 1 (.tmp 8), none, (some 51), [8]⟩,
  ⟨.store 1 (.tmp 51) (.tmp 50), none, none, [51, 50]⟩]
def m35r13 : List MOper := [⟨.load none (.tmp 44), none, (some 45), [44]⟩]
def m35r14 : List MOper := [⟨.load none (.tmp 44), none, (some 45), [44]⟩]
def m35r15 : List MOper := [⟨.load none (.tmp 44), none, (some 45), [44]⟩]
def m35r16 : List MOper := [⟨.load none (.tmp 44), none, (some 45), [44]⟩]
def m35r17 : List MOper := [⟨.mv (.tmp 1), none, (some 53), [1]⟩,
  ⟨.load (some 2) (.tmp 8), none, (some 54), [8]⟩,
  ⟨.call 13 [(.tmp 53), (.tmp 54)], none, (some 55), [53, 54]⟩,
  ⟨.mv (.tmp 55), none, (some 52), [55]⟩,
  ⟨.ext 0 (.tmp 52), none, (some 56), [52]⟩,
  ⟨.ext 1 (.tmp 52), none, (some 57), [52]⟩,
  ⟨.mv (.tmp 56), none, (some 9), [56]⟩,
  ⟨.mv (.tmp 57), none, (some 10), [57]⟩]
def m35r18 : List MOper := [⟨.mv (.lit (.int .i64 0)), none, (some 11), []⟩]
def m35r19 : List MOper := [⟨.mv (.tmp 11), none, (some 58), [11]⟩,
  ⟨.mv (.tmp 7), none, (some 59), [7]⟩,
  ⟨.bin .add .other (.lit (.int .i64 14)) (.tmp 59), none, (some 60), [59]⟩,
  ⟨.bin .lss .other (.tmp 58) (.tmp 60), none, (some 61), [58, 60]⟩]
def m35r20 : List MOper := [⟨.mv (.tmp 0), none, (some 64), [0]⟩,
  ⟨.mv (.tmp 11), none, (some 65), [11]⟩,
  ⟨.iaddr 1 (.tmp 64) (.tmp 65), none, (some 66), [64, 65]⟩,
  ⟨.load none (.tmp 66), none, (some 67), [66]⟩,
  ⟨.mv (.tmp 9), none, (some 68), [9]⟩,
  ⟨.mv (.tmp 11), none, (some 69), [11]⟩,
  ⟨.iaddr 1 (.tmp 68) (.tmp 69), none, (some 70), [68, 69]⟩,
  ⟨.load none (.tmp 70), none, (some 71), [70]⟩]
def m35r21 : List MOper := [⟨.bin .neq .other (.tmp 67) (.tmp 71), none, (some 72), [67, 71]⟩]
def m35r22 : List MOper := [⟨.build [(.int .u8 0), .nils] [], none, (some 73), []⟩,
  ⟨.store 2 (.tmp 4) (.tmp 73), none, none, [4, 73]⟩,
  ⟨.mv (.lit (.int .i64 0)), none, (some 5), []⟩,
  ⟨.mv (.lit (.int .u8 11)), none, (some 6), []⟩]
def m35r23 : List MOper := [⟨.mv (.tmp 11), none, (some 62), [11]⟩,
  ⟨.bin .add .other (.tmp 62) (.lit (.int .i64 1)), none, (some 63), [62]⟩,
  ⟨.mv (.tmp 63), none, (some 11), [63]⟩]
def m35l24 : MCode := (.seq (.seq (.region m35r19 [0, 4, 7, 8, 9, 11, 61])
  (.cond (.tmp 61)
  .skip
  (.exit 0)))
  (.seq (.block 1 (.seq (.dregion m35r20 m35r21 [] [0, 4, 7, 8, 9, 11, 72])
  (.cond (.tmp 72)
  (.seq (.region m35r22 [4, 5, 6])
  .ret)
  .skip)))
  (.region m35r23 [0, 4, 7, 8, 9, 11])))
def m35r25 : List MOper := [⟨.load (some 2) (.tmp 8), none, (some 74), [8]⟩,
  ⟨.mv (.tmp 7), none, (some 75), [7]⟩,
  ⟨.bin .add .other (.lit (.int .i64 14)) (.tmp 75), none, (some 76), [75]⟩,
  ⟨.store 2 (.tmp 4) (.tmp 74), none, none, [4, 74]⟩,
  ⟨.mv (.tmp 76), none, (some 5), [76]⟩,
  ⟨.mv (.lit (.int .u8 0)), none, (some 6), []⟩]
def m35 : MFunc := ⟨77, [.cell 4 (some 2), .tmp 5, .tmp 6],
  (.seq (.region m35r0 [0, 1, 4])
  (.seq (.seq (.region m35r1 [0, 1, 4, 18])
  (.cond (.tmp 18)
  (.seq (.region m35r2 [4, 5, 6])
  .ret)
  .skip))
  (.seq (.seq (.region m35r3 [0, 1, 4, 22])
  (.cond (.tmp 22)
  (.seq (.region m35r4 [4, 5, 6])
  .ret)
  .skip))
  (.seq (.dregion m35r5 m35r6 [] [0, 1, 4, 7])
  (.seq (.seq (.region m35r7 [0, 1, 4, 7, 38])
  (.cond (.tmp 38)
  (.seq (.region m35r8 [4, 5, 6])
  .ret)
  .skip))
  (.seq (.region m35r9 [0, 1, 4, 7, 8])
  (.seq (.region m35r10 [0, 1, 4, 7, 8])
  (.seq (.dregion m35r11 m35r12 [m35r13, m35r14, m35r15, m35r16, [], [], []] [0, 1, 4, 7, 8])
  (.seq (.region m35r17 [0, 4, 7, 8, 9])
  (.seq (.seq (.region m35r18 [0, 4, 7, 8, 9, 11])
  (.block 0 (.loop [0, 4, 7, 8, 9, 11] m35l24)))
  (.seq (.region m35r25 [4, 5, 6])
  .ret)))))))))))⟩
def h35 : List RH := [⟨[0, 1, 4], 0, false, []⟩, ⟨[0, 1, 4, 18], 0, false, []⟩, ⟨[4, 5, 6], 0, false, []⟩, ⟨[0, 1, 4, 22], 0, false, []⟩, ⟨[4, 5, 6], 0, false, []⟩, ⟨[0, 1, 4, 7], 9, false, []⟩, ⟨[0, 1, 4, 7, 38], 0, false, []⟩, ⟨[4, 5, 6], 0, false, []⟩, ⟨[0, 1, 4, 7, 8], 0, false, []⟩, ⟨[0, 1, 4, 7, 8], 0, false, []⟩, ⟨[0, 1, 4, 7, 8], 3, false, []⟩, ⟨[0, 4, 7, 8, 9], 0, false, []⟩, ⟨[0, 4, 7, 8, 9, 11], 0, false, []⟩, ⟨[0, 4, 7, 8, 9, 11], 0, false, []⟩, ⟨[0, 4, 7, 8, 9, 11, 61], 0, false, []⟩, ⟨[0, 4, 7, 8, 9, 11, 72], 8, false, []⟩, ⟨[4, 5, 6], 0, false, []⟩, ⟨[0, 4, 7, 8, 9, 11], 0, false, []⟩, ⟨[4, 5, 6], 0, false, []⟩]
theorem m35_ok : cmpFn Try.prog 35 h35 = some m35 := by kernel_rfl

/- dialtone/dialtoneref20.copied -/
def m36r0 : List MOper := [⟨.mv (.lit .nils), none, (some 2), []⟩]
def m36r1 : List MOper := [⟨.mv (.lit .nils), none, (some 3), []⟩]
def m36r2 : List MOper := [⟨.mv (.tmp 3), none, (some 4), [3]⟩,
  ⟨.mv (.tmp 0), none, (some 5), [0]⟩,
  ⟨.append 1 1 (.tmp 4) (.tmp 5), none, (some 6), [4, 5]⟩,
  ⟨.mv (.tmp 6), none, (some 2), [6]⟩]
def m36 : MFunc := ⟨7, [.tmp 2],
  (.seq (.region m36r0 [0])
  (.seq (.region m36r1 [0, 3])
  (.seq (.region m36r2 [2])
  .ret)))⟩
def h36 : List RH := [⟨[0], 0, false, []⟩, ⟨[0, 3], 0, false, []⟩, ⟨[2], 0, false, []⟩]
theorem m36_ok : cmpFn Try.prog 36 h36 = some m36 := by kernel_rfl

/- (*dialtone/journal.cursor).damaged -/
def m37r0 : List MOper := [⟨.mv (.lit (.bool false)), none, (some 2), []⟩]
def m37r1 : List MOper := [⟨.mv (.tmp 0), none, (some 6), [0]⟩,
  ⟨.nilchk (.tmp 6), none, (some 7), [6]⟩,
  ⟨.faddr 0 (.tmp 7), none, (some 8), [7]⟩,
  ⟨.load none (.tmp 8), none, (some 9), [8]⟩,
  ⟨.mv (.tmp 9), none, (some 3), [9]⟩]
def m37r2 : List MOper := [⟨.mkslice [(.int .u8 0)] 2 [(0, (.lit (.int .u8 167))), (1, (.lit (.int .u8 0)))], none, (some 10), []⟩,
  ⟨.mv (.tmp 0), none, (some 11), [0]⟩,
  ⟨.nilchk (.tmp 11), none, (some 12), [11]⟩,
  ⟨.faddr 1 (.tmp 12), none, (some 13), [12]⟩,
  ⟨.load none (.tmp 13), none, (some 14), [13]⟩,
  ⟨.conv .u32 (.tmp 14), none, (some 15), [14]⟩,
  ⟨.mkfrz [(.int .u32 0)] 1 [(0, (.tmp 15))], none, (some 16), [15]⟩,
  ⟨.call 32 [(.tmp 10), (.lit (.int .i64 4)), (.tmp 16)], none, (some 17), [10, 16]⟩,
  ⟨.mv (.tmp 17), none, (some 4), [17]⟩]
def m37r3 : List MOper := [⟨.mv (.tmp 3), none, (some 18), [3]⟩,
  ⟨.len 1 (.tmp 18), none, (some 19), [18]⟩,
  ⟨.mv (.tmp 4), none, (some 20), [4]⟩,
  ⟨.len 1 (.tmp 20), none, (some 21), [20]⟩,
  ⟨.minmax false (.tmp 19) [(.tmp 21)], none, (some 22), [19, 21]⟩,
  ⟨.mv (.lit (.int .i64 0)), none, (some 23), []⟩]
def m37r4 : List MOper := [⟨.bin .lss .other (.tmp 23) (.tmp 22), none, (some 24), [23, 22]⟩]
def m37r5 : List MOper := [⟨.mv (.tmp 23), none, (some 25), [23]⟩,
  ⟨.mv (.tmp 25), none, (some 5), [25]⟩]
def m37r6 : List MOper := [⟨.mv (.tmp 5), none, (some 26), [5]⟩,
  ⟨.bin .neq .other (.tmp 26) (.lit (.int .i64 1)), none, (some 27), [26]⟩,
  ⟨.mv (.tmp 27), none, (some 28), [27]⟩,
  ⟨.mv (.tmp 3), (some (28, true)), (some 29), [3]⟩,
  ⟨.mv (.tmp 5), (some (28, true)), (some 30), [5]⟩,
  ⟨.iaddr 1 (.tmp 29) (.tmp 30), (some (28, true)), (some 31), [29, 30]⟩,
  ⟨.load none (.tmp 31), (some (28, true)), (some 32), [31]⟩,
  ⟨.mv (.tmp 4), (some (28, true)), (some 33), [4]⟩,
  ⟨.mv (.tmp 5), (some (28, true)), (some 34), [5]⟩,
  ⟨.iaddr 1 (.tmp 33) (.tmp 34), (some (28, true)), (some 35), [33, 34]⟩,
  ⟨.load none (.tmp 35), (some (28, true)), (some 36), [35]⟩]
def m37r7 : List MOper := [⟨.bin .neq .other (.tmp 32) (.tmp 36), (some (28, true)), (some 37), [32, 36]⟩,
  ⟨.pick (.tmp 28) (.tmp 37) (.lit (.bool false)), none, (some 38), [28, 37]⟩]
def m37r8 : List MOper := [⟨.mv (.lit (.bool true)), none, (some 2), []⟩]
def m37r9 : List MOper := [⟨.bin .add .other (.tmp 23) (.lit (.int .i64 1)), none, (some 39), [23]⟩,
  ⟨.mv (.tmp 39), none, (some 23), [39]⟩]
def m37l10 : MCode := (.seq (.region m37r4 [3, 4, 22, 23, 24])
  (.seq (.cond (.tmp 24)
  .skip
  (.exit 0))
  (.seq (.block 1 (.seq (.region m37r5 [3, 4, 5, 22, 23])
  (.seq (.dregion m37r6 m37r7 [] [3, 4, 22, 23, 38])
  (.cond (.tmp 38)
  (.seq (.region m37r8 [2])
  .ret)
  .skip))))
  (.region m37r9 [3, 4, 22, 23]))))
def m37r11 : List MOper := [⟨.mv (.tmp 3), none, (some 40), [3]⟩,
  ⟨.len 1 (.tmp 40), none, (some 41), [40]⟩,
  ⟨.bin .geq .other (.tmp 41) (.lit (.int .i64 8)), none, (some 42), [41]⟩,
  ⟨.mv (.tmp 42), none, (some 43), [42]⟩,
  ⟨.mv (.tmp 3), (some (43, true)), (some 44), [3]⟩,
  ⟨.iaddr 1 (.tmp 44) (.lit (.int .i64 6)), (some (43, true)), (some 45), [44]⟩,
  ⟨.load none (.tmp 45), (some (43, true)), (some 46), [45]⟩,
  ⟨.conv .i64 (.tmp 46), (some (43, true)), (some 47), [46]⟩,
  ⟨.bin .shl .other (.tmp 47) (.lit (.int .u64 8)), (some (43, true)), (some 48), [47]⟩,
  ⟨.mv (.tmp 3), (some (43, true)), (some 49), [3]⟩,
  ⟨.iaddr 1 (.tmp 49) (.lit (.int .i64 7)), (some (43, true)), (some 50), [49]⟩,
  ⟨.load none (.tmp 50), (some (43, true)), (some 51), [50]⟩,
  ⟨.conv .i64 (.tmp 51), (some (43, true)), (some 52), [51]⟩]
def m37r12 : List MOper := [⟨.bin .add .other (.tmp 48) (.tmp 52), (some (43, true)), (some 53), [48, 52]⟩,
  ⟨.bin .gtr .other (.tmp 53) (.lit (.int .i64 4096)), (some (43, true)), (some 54), [53]⟩,
  ⟨.pick (.tmp 43) (.tmp 54) (.lit (.bool false)), none, (some 55), [43, 54]⟩]
def m37r13 : List MOper := [⟨.mv (.lit (.bool true)), none, (some 2), []⟩]
def m37r14 : List MOper := [⟨.mv (.tmp 3), none, (some 56), [3]⟩,
  ⟨.len 1 (.tmp 56), none, (some 57), [56]⟩,
  ⟨.bin .gtr .other (.tmp 57) (.lit (.int .i64 8)), none, (some 58), [57]⟩,
  ⟨.mv (.tmp 58), none, (some 59), [58]⟩,
  ⟨.mv (.tmp 3), (some (59, true)), (some 60), [3]⟩,
  ⟨.iaddr 1 (.tmp 60) (.lit (.int .i64 8)), (some (59, true)), (some 61), [60]⟩,
  ⟨.load none (.tmp 61), (some (59, true)), (some 62), [61]⟩,
  ⟨.mv (.tmp 3), (some (59, true)), (some 63), [3]⟩,
  ⟨.iaddr 1 (.tmp 63) (.lit (.int .i64 6)), (some (59, true)), (some 64), [63]⟩,
  ⟨.load none (.tmp 64), (some (59, true)), (some 65), [64]⟩,
  ⟨.un .xor (.tmp 65), (some (59, true)), (some 66), [65]⟩,
  ⟨.bin .neq .other (.tmp 62) (.tmp 66), (some (59, true)), (some 67), [62, 66]⟩,
  ⟨.pick (.tmp 59) (.tmp 67) (.lit (.bool false)), none, (some 68), [59, 67]⟩,
  ⟨.mv (.tmp 68), none, (some 69), [68]⟩,
  ⟨.mv (.tmp 3), (some (69, false)), (some 70), [3]⟩,
  ⟨.len 1 (.tmp 70), (some (69, false)), (some 71), [70]⟩,
  ⟨.bin .gtr .other (.tmp 71) (.lit (.int .i64 9)), (some (69, false)), (some 72), [71]⟩,
  ⟨.mv (.tmp 72), (some (69, false)), (some 73), [72]⟩,
  ⟨.mv (.tmp 3), (some (73, true)), (some 74), [3]⟩,
  ⟨.iaddr 1 (.tmp 74) (.lit (.int .i64 9)), (some (73, true)), (some 75), [74]⟩,
  ⟨.load none (.tmp 75), (some (73, true)), (some 76), [75]⟩,
  ⟨.mv (.tmp 3), (some (73, true)), (some 77), [3]⟩,
  ⟨.iaddr 1 (.tmp 77) (.lit (.int .i64 7)), (some (73, true)), (some 78), [77]⟩,
  ⟨.load none (.tmp 78), (some (73, true)), (some 79), [78]⟩,
  ⟨.un .xor (.tmp 79), (some (73, true)), (some 80), [79]⟩]
def m37r15 : List MOper := [⟨.bin .neq .other (.tmp 76) (.tmp 80), (some (73, true)), (some 81), [76, 80]⟩,
  ⟨.pick (.tmp 73) (.tmp 81) (.lit (.bool false)), (some (69, false)), (some 82), [73, 81]⟩,
  ⟨.pick (.tmp 69) (.lit (.bool true)) (.tmp 82), none, (some 83), [69, 82]⟩,
  ⟨.mv (.tmp 83), none, (some 2), [83]⟩]
def m37 : MFunc := ⟨84, [.tmp 2],
  (.seq (.region m37r0 [0])
  (.seq (.region m37r1 [0, 3])
  (.seq (.region m37r2 [3, 4])
  (.seq (.seq (.region m37r3 [3, 4, 22, 23])
  (.block 0 (.loop [3, 4, 22, 23] m37l10)))
  (.seq (.seq (.dregion m37r11 m37r12 [] [3, 55])
  (.cond (.tmp 55)
  (.seq (.region m37r13 [2])
  .ret)
  .skip))
  (.seq (.dregion m37r14 m37r15 [] [2])
  .ret))))))⟩
def h37 : List RH := [⟨[0], 0, false, []⟩, ⟨[0, 3], 0, false, []⟩, ⟨[3, 4], 0, false, []⟩, ⟨[3, 4, 22, 23], 0, false, []⟩, ⟨[3, 4, 22, 23], 0, false, []⟩, ⟨[3, 4, 22, 23, 24], 0, false, []⟩, ⟨[3, 4, 5, 22, 23], 0, false, []⟩, ⟨[3, 4, 22, 23, 38], 11, false, []⟩, ⟨[2], 0, false, []⟩, ⟨[3, 4, 22, 23], 0, false, []⟩, ⟨[3, 55], 13, false, []⟩, ⟨[2], 0, false, []⟩, ⟨[2], 25, false, []⟩]
theorem m37_ok : cmpFn Try.prog 37 h37 = some m37 := by kernel_rfl

/- dialtone/dialtoneref20.wrong -/
def m38r0 : List MOper := [⟨.mv (.lit (.bool false)), none, (some 4), []⟩]
def m38r1 : List MOper := [⟨.mkslice [(.int .u8 0)] 2 [(0, (.lit (.int .u8 167))), (1, (.lit (.int .u8 0)))], none, (some 7), []⟩,
  ⟨.mv (.tmp 1), none, (some 8), [1]⟩,
  ⟨.call 33 [(.tmp 8), (.lit (.int .i64 4))], none, (some 9), [8]⟩,
  ⟨.append 1 1 (.tmp 7) (.tmp 9), none, (some 10), [7, 9]⟩,
  ⟨.mv (.tmp 10), none, (some 5), [10]⟩]
def m38r2 : List MOper := [⟨.mv (.lit (.int .i64 0)), none, (some 6), []⟩]
def m38r3 : List MOper := [⟨.mv (.tmp 6), none, (some 11), [6]⟩,
  ⟨.bin .lss .other (.tmp 11) (.lit (.int .i64 6)), none, (some 12), [11]⟩,
  ⟨.mv (.tmp 12), none, (some 13), [12]⟩,
  ⟨.mv (.tmp 6), (some (13, true)), (some 14), [6]⟩,
  ⟨.mv (.tmp 0), (some (13, true)), (some 15), [0]⟩,
  ⟨.len 1 (.tmp 15), (some (13, true)), (some 16), [15]⟩,
  ⟨.bin .lss .other (.tmp 14) (.tmp 16), (some (13, true)), (some 17), [14, 16]⟩,
  ⟨.pick (.tmp 13) (.tmp 17) (.lit (.bool false)), none, (some 18), [13, 17]⟩]
def m38r4 : List MOper := [⟨.mv (.tmp 6), none, (some 21), [6]⟩,
  ⟨.bin .neq .other (.tmp 21) (.lit (.int .i64 1)), none, (some 22), [21]⟩,
  ⟨.mv (.tmp 22), none, (some 23), [22]⟩,
  ⟨.mv (.tmp 0), (some (23, true)), (some 24), [0]⟩,
  ⟨.mv (.tmp 6), (some (23, true)), (some 25), [6]⟩,
  ⟨.iaddr 1 (.tmp 24) (.tmp 25), (some (23, true)), (some 26), [24, 25]⟩,
  ⟨.load none (.tmp 26), (some (23, true)), (some 27), [26]⟩,
  ⟨.mv (.tmp 5), (some (23, true)), (some 28), [5]⟩,
  ⟨.mv (.tmp 6), (some (23, true)), (some 29), [6]⟩,
  ⟨.iaddr 1 (.tmp 28) (.tmp 29), (some (23, true)), (some 30), [28, 29]⟩,
  ⟨.load none (.tmp 30), (some (23, true)), (some 31), [30]⟩]
def m38r5 : List MOper := [⟨.bin .neq .other (.tmp 27) (.tmp 31), (some (23, true)), (some 32), [27, 31]⟩,
  ⟨.pick (.tmp 23) (.tmp 32) (.lit (.bool false)), none, (some 33), [23, 32]⟩]
def m38r6 : List MOper := [⟨.mv (.lit (.bool true)), none, (some 4), []⟩]
def m38r7 : List MOper := [⟨.mv (.tmp 6), none, (some 19), [6]⟩,
  ⟨.bin .add .other (.tmp 19) (.lit (.int .i64 1)), none, (some 20), [19]⟩,
  ⟨.mv (.tmp 20), none, (some 6), [20]⟩]
def m38l8 : MCode := (.seq (.seq (.region m38r3 [0, 5, 6, 18])
  (.cond (.tmp 18)
  .skip
  (.exit 0)))
  (.seq (.block 1 (.seq (.dregion m38r4 m38r5 [] [0, 5, 6, 33])
  (.cond (.tmp 33)
  (.seq (.region m38r6 [4])
  .ret)
  .skip)))
  (.region m38r7 [0, 5, 6])))
def m38r9 : List MOper := [⟨.mv (.tmp 0), none, (some 34), [0]⟩,
  ⟨.len 1 (.tmp 34), none, (some 35), [34]⟩,
  ⟨.bin .geq .other (.tmp 35) (.lit (.int .i64 8)), none, (some 36), [35]⟩,
  ⟨.mv (.tmp 36), none, (some 37), [36]⟩,
  ⟨.mv (.tmp 0), (some (37, true)), (some 38), [0]⟩,
  ⟨.iaddr 1 (.tmp 38) (.lit (.int .i64 6)), (some (37, true)), (some 39), [38]⟩,
  ⟨.load none (.tmp 39), (some (37, true)), (some 40), [39]⟩,
  ⟨.conv .i64 (.tmp 40), (some (37, true)), (some 41), [40]⟩,
  ⟨.bin .mul .other (.lit (.int .i64 256)) (.tmp 41), (some (37, true)), (some 42), [41]⟩,
  ⟨.mv (.tmp 0), (some (37, true)), (some 43), [0]⟩,
  ⟨.iaddr 1 (.tmp 43) (.lit (.int .i64 7)), (some (37, true)), (some 44), [43]⟩,
  ⟨.load none (.tmp 44), (some (37, true)), (some 45), [44]⟩,
  ⟨.conv .i64 (.tmp 45), (some (37, true)), (some 46), [45]⟩]
def m38r10 : List MOper := [⟨.bin .add .other (.tmp 42) (.tmp 46), (some (37, true)), (some 47), [42, 46]⟩,
  ⟨.bin .gtr .other (.tmp 47) (.lit (.int .i64 4096)), (some (37, true)), (some 48), [47]⟩,
  ⟨.pick (.tmp 37) (.tmp 48) (.lit (.bool false)), none, (some 49), [37, 48]⟩]
def m38r11 : List MOper := [⟨.mv (.lit (.bool true)), none, (some 4), []⟩]
def m38r12 : List MOper := [⟨.mv (.tmp 0), none, (some 50), [0]⟩,
  ⟨.len 1 (.tmp 50), none, (some 51), [50]⟩,
  ⟨.bin .geq .other (.tmp 51) (.lit (.int .i64 9)), none, (some 52), [51]⟩,
  ⟨.mv (.tmp 52), none, (some 53), [52]⟩,
  ⟨.mv (.tmp 0), (some (53, true)), (some 54), [0]⟩,
  ⟨.iaddr 1 (.tmp 54) (.lit (.int .i64 8)), (some (53, true)), (some 55), [54]⟩,
  ⟨.load none (.tmp 55), (some (53, true)), (some 56), [55]⟩,
  ⟨.conv .i64 (.tmp 56), (some (53, true)), (some 57), [56]⟩,
  ⟨.mv (.tmp 0), (some (53, true)), (some 58), [0]⟩,
  ⟨.iaddr 1 (.tmp 58) (.lit (.int .i64 6)), (some (53, true)), (some 59), [58]⟩,
  ⟨.load none (.tmp 59), (some (53, true)), (some 60), [59]⟩,
  ⟨.conv .i64 (.tmp 60), (some (53, true)), (some 61), [60]⟩,
  ⟨.bin .sub .other (.lit (.int .i64 255)) (.tmp 61), (some (53, true)), (some 62), [61]⟩,
  ⟨.bin .neq .other (.tmp 57) (.tmp 62), (some (53, true)), (some 63), [57, 62]⟩,
  ⟨.pick (.tmp 53) (.tmp 63) (.lit (.bool false)), none, (some 64), [53, 63]⟩,
  ⟨.mv (.tmp 64), none, (some 65), [64]⟩,
  ⟨.mv (.tmp 0), (some (65, false)), (some 66), [0]⟩,
  ⟨.len 1 (.tmp 66), (some (65, false)), (some 67), [66]⟩,
  ⟨.bin .geq .other (.tmp 67) (.lit (.int .i64 10)), (some (65, false)), (some 68), [67]⟩,
  ⟨.mv (.tmp 68), (some (65, false)), (some 69), [68]⟩,
  ⟨.mv (.tmp 0), (some (69, true)), (some 70), [0]⟩,
  ⟨.iaddr 1 (.tmp 70) (.lit (.int .i64 9)), (some (69, true)), (some 71), [70]⟩,
  ⟨.load none (.tmp 71), (some (69, true)), (some 72), [71]⟩,
  ⟨.conv .i64 (.tmp 72), (some (69, true)), (some 73), [72]⟩,
  ⟨.mv (.tmp 0), (some (69, true)), (some 74), [0]⟩,
  ⟨.iaddr 1 (.tmp 74) (.lit (.int .i64 7)), (some (69, true)), (some 75), [74]⟩,
  ⟨.load none (.tmp 75), (some (69, true)), (some 76), [75]⟩,
  ⟨.conv .i64 (.tmp 76), (some (69, true)), (some 77), [76]⟩,
  ⟨.bin .sub .other (.lit (.int .i64 255)) (.tmp 77), (some (69, true)), (some 78), [77]⟩]
def m38r13 : List MOper := [⟨.bin .neq .other (.tmp 73) (.tmp 78), (some (69, true)), (some 79), [73, 78]⟩,
  ⟨.pick (.tmp 69) (.tmp 79) (.lit (.bool false)), (some (65, false)), (some 80), [69, 79]⟩,
  ⟨.pick (.tmp 65) (.lit (.bool true)) (.tmp 80), none, (some 81), [65, 80]⟩,
  ⟨.mv (.tmp 81), none, (some 4), [81]⟩]
def m38 : MFunc := ⟨82, [.tmp 4],
  (.seq (.region m38r0 [0, 1])
  (.seq (.region m38r1 [0, 5])
  (.seq (.seq (.region m38r2 [0, 5, 6])
  (.block 0 (.loop [0, 5, 6] m38l8)))
  (.seq (.seq (.dregion m38r9 m38r10 [] [0, 49])
  (.cond (.tmp 49)
  (.seq (.region m38r11 [4])
  .ret)
  .skip))
  (.seq (.dregion m38r12 m38r13 [] [4])
  .ret)))))⟩
def h38 : List RH := [⟨[0, 1], 0, false, []⟩, ⟨[0, 5], 0, false, []⟩, ⟨[0, 5, 6], 0, false, []⟩, ⟨[0, 5, 6], 0, false, []⟩, ⟨[0, 5, 6, 18], 0, false, []⟩, ⟨[0, 5, 6, 33], 11, false, []⟩, ⟨[4], 0, false, []⟩, ⟨[0, 5, 6], 0, false, []⟩, ⟨[0, 49], 13, false, []⟩, ⟨[4], 0, false, []⟩, ⟨[4], 29, false, []⟩]
theorem m38_ok : cmpFn Try.prog 38 h38 = some m38 := by kernel_rfl

/- dialtone/dialtonelaw20.JournalEncodes -/
def m3r0 : List MOper := [⟨.box 2 (.tmp 1), none, (some 4), [1]⟩,
  ⟨.mv (.lit (.bool false)), none, (some 6), []⟩]
def m3r1 : List MOper := [⟨.mv (.tmp 2), none, (some 11), [2]⟩,
  ⟨.len 1 (.tmp 11), none, (some 12), [11]⟩,
  ⟨.bin .gtr .other (.tmp 12) (.lit (.int .i64 5000)), none, (some 13), [12]⟩,
  ⟨.mv (.tmp 13), none, (some 14), [13]⟩,
  ⟨.faddr 1 (.tmp 4), (some (14, false)), (some 15), [4]⟩,
  ⟨.load none (.tmp 15), (some (14, false)), (some 16), [15]⟩,
  ⟨.len 1 (.tmp 16), (some (14, false)), (some 17), [16]⟩,
  ⟨.bin .gtr .other (.tmp 17) (.lit (.int .i64 5000)), (some (14, false)), (some 18), [17]⟩,
  ⟨.pick (.tmp 14) (.lit (.bool true)) (.tmp 18), none, (some 19), [14, 18]⟩]
def m3r2 : List MOper := [⟨.call 11 [], none, (some 20), []⟩,
  ⟨.mv (.tmp 20), none, (some 6), [20]⟩]
def m3r3 : List MOper := [⟨.mv (.tmp 0), none, (some 22), [0]⟩,
  ⟨.load (some 2) (.tmp 4), none, (some 23), [4]⟩,
  ⟨.call 12 [(.tmp 22), (.tmp 23)], none, (some 24), [22, 23]⟩,
  ⟨.mv (.tmp 24), none, (some 21), [24]⟩,
  ⟨.ext 0 (.tmp 21), none, (some 25), [21]⟩,
  ⟨.ext 1 (.tmp 21), none, (some 26), [21]⟩,
  ⟨.mv (.tmp 25), none, (some 7), [25]⟩,
  ⟨.mv (.tmp 26), none, (some 8), [26]⟩]
def m3r4 : List MOper := [⟨.mv (.tmp 0), none, (some 28), [0]⟩,
  ⟨.load (some 2) (.tmp 4), none, (some 29), [4]⟩,
  ⟨.call 13 [(.tmp 28), (.tmp 29)], none, (some 30), [28, 29]⟩,
  ⟨.mv (.tmp 30), none, (some 27), [30]⟩,
  ⟨.ext 0 (.tmp 27), none, (some 31), [27]⟩,
  ⟨.ext 1 (.tmp 27), none, (some 32), [27]⟩,
  ⟨.mv (.tmp 31), none, (some 9), [31]⟩,
  ⟨.mv (.tmp 32), none, (some 10), [32]⟩]
def m3r5 : List MOper := [⟨.mv (.tmp 2), none, (some 33), [2]⟩,
  ⟨.call 14 [(.tmp 33)], none, (some 34), [33]⟩,
  ⟨.mv (.tmp 2), none, (some 35), [2]⟩,
  ⟨.call 15 [(.tmp 35)], none, (some 36), [35]⟩,
  ⟨.bin .eql .other (.tmp 34) (.tmp 36), none, (some 37), [34, 36]⟩,
  ⟨.mv (.tmp 37), none, (some 38), [37]⟩,
  ⟨.mv (.tmp 7), (some (38, true)), (some 39), [7]⟩,
  ⟨.tostr (.tmp 39), (some (38, true)), (some 40), [39]⟩,
  ⟨.mv (.tmp 9), (some (38, true)), (some 41), [9]⟩,
  ⟨.tostr (.tmp 41), (some (38, true)), (some 42), [41]⟩,
  ⟨.bin .eql .other (.tmp 40) (.tmp 42), (some (38, true)), (some 43), [40, 42]⟩,
  ⟨.pick (.tmp 38) (.tmp 43) (.lit (.bool false)), none, (some 44), [38, 43]⟩,
  ⟨.mv (.tmp 44), none, (some 45), [44]⟩,
  ⟨.mv (.tmp 8), (some (45, true)), (some 46), [8]⟩,
  ⟨.mv (.tmp 10), (some (45, true)), (some 47), [10]⟩,
  ⟨.bin .eql .other (.tmp 46) (.tmp 47), (some (45, true)), (some 48), [46, 47]⟩,
  ⟨.pick (.tmp 45) (.tmp 48) (.lit (.bool false)), none, (some 49), [45, 48]⟩,
  ⟨.mv (.tmp 49), none, (some 50), [49]⟩,
  ⟨.call 11 [], (some (50, true)), (some 51), []⟩,
  ⟨.pick (.tmp 50) (.tmp 51) (.lit (.bool false)), none, (some 52), [50, 51]⟩,
  ⟨.mv (.tmp 52), none, (some 6), [52]⟩]
def m3 : MFunc := ⟨53, [.tmp 6],
  (.seq (.region m3r0 [0, 2, 4])
  (.seq (.seq (.region m3r1 [0, 2, 4, 19])
  (.cond (.tmp 19)
  (.seq (.region m3r2 [6])
  .ret)
  .skip))
  (.seq (.region m3r3 [0, 2, 4, 7, 8])
  (.seq (.region m3r4 [2, 7, 8, 9, 10])
  (.seq (.region m3r5 [6])
  .ret)))))⟩
def h3 : List RH := [⟨[0, 2, 4], 0, false, []⟩, ⟨[0, 2, 4, 19], 0, false, []⟩, ⟨[6], 0, false, []⟩, ⟨[0, 2, 4, 7, 8], 0, false, []⟩, ⟨[2, 7, 8, 9, 10], 0, false, []⟩, ⟨[6], 0, false, []⟩]
theorem m3_ok : cmpFn Try.prog 3 h3 = some m3 := by kernel_rfl

end Go.Ab.Try.S
