/-
  The translated functions of this claim, printed by a program of ours (gen.sh), with the kernel's word that they are the translation.
  Conditions: none.
-/
import Derived.Test.YthpmmdlhoaonaaaProg
import Derived.Test.YthpmmdlhoaonaaaAbEval
import Derived.KernelRfl
namespace Go.Ab.Try.V
open Go.Proofs
/- dialtone/dialtonelaw20.lives -/
def m11r0 : List MOper := [⟨.mv (.lit (.bool false)), none, (some 0), []⟩]
def m11r1 : List MOper := [⟨.build [.nils, (.int .i64 0), (.int .i64 0)] [], none, (some 12), []⟩,
  ⟨.mkslice [(.int .u8 0)] 1 [(0, (.lit (.int .u8 65)))], none, (some 13), []⟩,
  ⟨.build [(.int .u8 0), .nils] [(0, 1, (.lit (.int .u8 5))), (1, 1, (.tmp 13))], none, (some 14), [13]⟩,
  ⟨.call 25 [(.tmp 12), (.tmp 14)], none, (some 15), [12, 14]⟩,
  ⟨.mv (.tmp 15), none, (some 11), [15]⟩,
  ⟨.ext 0 (.tmp 11), none, (some 16), [11]⟩,
  ⟨.ext 1 (.tmp 11), none, (some 17), [11]⟩,
  ⟨.zbox [.nils, (.int .i64 0), (.int .i64 0)], none, (some 1), []⟩,
  ⟨.store 3 (.tmp 1) (.tmp 16), none, none, [1, 16]⟩,
  ⟨.mv (.tmp 17), none, (some 2), [17]⟩]
def m11r2 : List MOper := [⟨.load (some 3) (.tmp 1), none, (some 19), [1]⟩,
  ⟨.build [(.int .u8 0), .nils] [(0, 1, (.lit (.int .u8 6)))], none, (some 20), []⟩,
  ⟨.call 25 [(.tmp 19), (.tmp 20)], none, (some 21), [19, 20]⟩,
  ⟨.mv (.tmp 21), none, (some 18), [21]⟩,
  ⟨.ext 0 (.tmp 18), none, (some 22), [18]⟩,
  ⟨.ext 1 (.tmp 18), none, (some 23), [18]⟩,
  ⟨.zbox [.nils, (.int .i64 0), (.int .i64 0)], none, (some 3), []⟩,
  ⟨.store 3 (.tmp 3) (.tmp 22), none, none, [3, 22]⟩,
  ⟨.mv (.tmp 23), none, (some 4), [23]⟩]
def m11r3 : List MOper := [⟨.faddr 0 (.tmp 3), none, (some 25), [3]⟩,
  ⟨.load none (.tmp 25), none, (some 26), [25]⟩,
  ⟨.call 18 [(.tmp 26)], none, (some 27), [26]⟩,
  ⟨.mv (.tmp 27), none, (some 24), [27]⟩,
  ⟨.ext 0 (.tmp 24), none, (some 28), [24]⟩,
  ⟨.ext 1 (.tmp 24), none, (some 29), [24]⟩,
  ⟨.ext 2 (.tmp 24), none, (some 30), [24]⟩,
  ⟨.mv (.tmp 28), none, (some 5), [28]⟩,
  ⟨.mv (.tmp 29), none, (some 6), [29]⟩,
  ⟨.mv (.tmp 30), none, (some 7), [30]⟩]
def m11r4 : List MOper := [⟨.mkfrz [(.int .u8 0)] 6 [(0, (.lit (.int .u8 167))), (1, (.lit (.int .u8 5))), (2, (.lit (.int .u8 0))), (3, (.lit (.int .u8 0))), (4, (.lit (.int .u8 0))), (5, (.lit (.int .u8 1)))], none, (some 32), []⟩,
  ⟨.call 18 [(.tmp 32)], none, (some 33), [32]⟩,
  ⟨.mv (.tmp 33), none, (some 31), [33]⟩,
  ⟨.ext 0 (.tmp 31), none, (some 34), [31]⟩,
  ⟨.ext 1 (.tmp 31), none, (some 35), [31]⟩,
  ⟨.ext 2 (.tmp 31), none, (some 36), [31]⟩,
  ⟨.mv (.tmp 34), none, (some 8), [34]⟩,
  ⟨.mv (.tmp 35), none, (some 9), [35]⟩,
  ⟨.mv (.tmp 36), none, (some 10), [36]⟩]
def m11r5 : List MOper := [⟨.mkslice [(.int .u8 0)] 9 [(0, (.lit (.int .u8 49))), (1, (.lit (.int .u8 50))), (2, (.lit (.int .u8 51))), (3, (.lit (.int .u8 52))), (4, (.lit (.int .u8 53))), (5, (.lit (.int .u8 54))), (6, (.lit (.int .u8 55))), (7, (.lit (.int .u8 56))), (8, (.lit (.int .u8 57)))], none, (some 37), []⟩,
  ⟨.slid (.tmp 37), none, (some 38), [37]⟩,
  ⟨.call 14 [(.tmp 38)], none, (some 39), [38]⟩,
  ⟨.bin .eql .other (.tmp 39) (.lit (.int .u32 3421780262)), none, (some 40), [39]⟩,
  ⟨.mv (.tmp 40), none, (some 41), [40]⟩,
  ⟨.mv (.tmp 2), (some (41, true)), (some 42), [2]⟩,
  ⟨.bin .eql .other (.tmp 42) (.lit (.int .u8 0)), (some (41, true)), (some 43), [42]⟩,
  ⟨.pick (.tmp 41) (.tmp 43) (.lit (.bool false)), none, (some 44), [41, 43]⟩,
  ⟨.mv (.tmp 44), none, (some 45), [44]⟩,
  ⟨.mv (.tmp 4), (some (45, true)), (some 46), [4]⟩,
  ⟨.bin .eql .other (.tmp 46) (.lit (.int .u8 0)), (some (45, true)), (some 47), [46]⟩,
  ⟨.pick (.tmp 45) (.tmp 47) (.lit (.bool false)), none, (some 48), [45, 47]⟩,
  ⟨.mv (.tmp 48), none, (some 49), [48]⟩,
  ⟨.mv (.tmp 7), (some (49, true)), (some 50), [7]⟩,
  ⟨.bin .eql .other (.tmp 50) (.lit (.int .u8 0)), (some (49, true)), (some 51), [50]⟩,
  ⟨.pick (.tmp 49) (.tmp 51) (.lit (.bool false)), none, (some 52), [49, 51]⟩,
  ⟨.mv (.tmp 52), none, (some 53), [52]⟩,
  ⟨.mv (.tmp 6), (some (53, true)), (some 54), [6]⟩,
  ⟨.bin .eql .other (.tmp 54) (.lit (.int .i64 29)), (some (53, true)), (some 55), [54]⟩,
  ⟨.pick (.tmp 53) (.tmp 55) (.lit (.bool false)), none, (some 56), [53, 55]⟩,
  ⟨.mv (.tmp 56), none, (some 57), [56]⟩,
  ⟨.mv (.tmp 5), (some (57, true)), (some 58), [5]⟩,
  ⟨.mkslice [(.int .u8 0)] 1 [(0, (.lit (.int .u8 65)))], (some (57, true)), (some 59), []⟩,
  ⟨.build [(.int .u8 0), .nils] [(0, 1, (.lit (.int .u8 5))), (1, 1, (.tmp 59))], (some (57, true)), (some 60), [59]⟩,
  ⟨.build [(.int .u8 0), .nils] [(0, 1, (.lit (.int .u8 6)))], (some (57, true)), (some 61), []⟩,
  ⟨.mkfrz [(.int .u8 0), .nils] 2 [(0, (.tmp 60)), (1, (.tmp 61))], (some (57, true)), (some 62), [60, 61]⟩,
  ⟨.call 19 [(.tmp 58), (.tmp 62)], (some (57, true)), (some 63), [58, 62]⟩,
  ⟨.pick (.tmp 57) (.tmp 63) (.lit (.bool false)), none, (some 64), [57, 63]⟩,
  ⟨.mv (.tmp 64), none, (some 65), [64]⟩,
  ⟨.mv (.tmp 10), (some (65, true)), (some 66), [10]⟩,
  ⟨.bin .eql .other (.tmp 66) (.lit (.int .u8 5)), (some (65, true)), (some 67), [66]⟩,
  ⟨.pick (.tmp 65) (.tmp 67) (.lit (.bool false)), none, (some 68), [65, 67]⟩,
  ⟨.mv (.tmp 68), none, (some 0), [68]⟩]
def m11 : MFunc := ⟨69, [.tmp 0],
  (.seq (.region m11r0 [])
  (.seq (.region m11r1 [1, 2])
  (.seq (.region m11r2 [2, 3, 4])
  (.seq (.region m11r3 [2, 4, 5, 6, 7])
  (.seq (.region m11r4 [2, 4, 5, 6, 7, 10])
  (.seq (.region m11r5 [0])
  .ret))))))⟩
def h11 : List RH := [⟨[], 0, false, []⟩, ⟨[1, 2], 0, false, []⟩, ⟨[2, 3, 4], 0, false, []⟩, ⟨[2, 4, 5, 6, 7], 0, false, []⟩, ⟨[2, 4, 5, 6, 7, 10], 0, false, []⟩, ⟨[0], 0, false, []⟩]
theorem m11_ok : cmpFn Try.prog 11 h11 = some m11 := by kernel_rfl

/- dialtone/journal.Encode -/
def m12r0 : List MOper := [⟨.box 2 (.tmp 1), none, (some 3), [1]⟩,
  ⟨.mv (.lit .nils), none, (some 4), []⟩,
  ⟨.mv (.lit (.int .u8 0)), none, (some 5), []⟩]
def m12r1 : List MOper := [⟨.mv (.tmp 0), none, (some 8), [0]⟩,
  ⟨.bin .lss .other (.tmp 8) (.lit (.int .i64 0)), none, (some 9), [8]⟩,
  ⟨.mv (.tmp 9), none, (some 10), [9]⟩,
  ⟨.mv (.tmp 0), (some (10, false)), (some 11), [0]⟩,
  ⟨.bin .geq .other (.tmp 11) (.lit (.int .i64 1048576)), (some (10, false)), (some 12), [11]⟩,
  ⟨.pick (.tmp 10) (.lit (.bool true)) (.tmp 12), none, (some 13), [10, 12]⟩]
def m12r2 : List MOper := [⟨.mv (.lit .nils), none, (some 4), []⟩,
  ⟨.mv (.lit (.int .u8 3)), none, (some 5), []⟩]
def m12r3 : List MOper := [⟨.faddr 1 (.tmp 3), none, (some 14), [3]⟩,
  ⟨.load none (.tmp 14), none, (some 15), [14]⟩,
  ⟨.len 1 (.tmp 15), none, (some 16), [15]⟩,
  ⟨.bin .gtr .other (.tmp 16) (.lit (.int .i64 4096)), none, (some 17), [16]⟩]
def m12r4 : List MOper := [⟨.mv (.lit .nils), none, (some 4), []⟩,
  ⟨.mv (.lit (.int .u8 4)), none, (some 5), []⟩]
def m12r5 : List MOper := [⟨.faddr 1 (.tmp 3), none, (some 18), [3]⟩,
  ⟨.load none (.tmp 18), none, (some 19), [18]⟩,
  ⟨.len 1 (.tmp 19), none, (some 20), [19]⟩,
  ⟨.conv .u32 (.tmp 20), none, (some 21), [20]⟩,
  ⟨.mv (.tmp 21), none, (some 6), [21]⟩]
def m12r6 : List MOper := [⟨.faddr 1 (.tmp 3), none, (some 22), [3]⟩,
  ⟨.load none (.tmp 22), none, (some 23), [22]⟩,
  ⟨.len 1 (.tmp 23), none, (some 24), [23]⟩,
  ⟨.bin .add .other (.lit (.int .i64 10)) (.tmp 24), none, (some 25), [24]⟩,
  ⟨.bin .add .other (.tmp 25) (.lit (.int .i64 4)), none, (some 26), [25]⟩,
  ⟨.make [(.int .u8 0)] 1 (.lit (.int .i64 0)) (.tmp 26), none, (some 27), [26]⟩,
  ⟨.mv (.tmp 27), none, (some 7), [27]⟩]
def m12r7 : List MOper := [⟨.mv (.tmp 7), none, (some 28), [7]⟩,
  ⟨.faddr 0 (.tmp 3), none, (some 29), [3]⟩,
  ⟨.load none (.tmp 29), none, (some 30), [29]⟩,
  ⟨.mkfrz [(.int .u8 0)] 2 [(0, (.lit (.int .u8 167))), (1, (.tmp 30))], none, (some 31), [30]⟩,
  ⟨.append 1 1 (.tmp 28) (.tmp 31), none, (some 32), [28, 31]⟩,
  ⟨.mv (.tmp 32), none, (some 7), [32]⟩]
def m12r8 : List MOper := [⟨.mv (.tmp 7), none, (some 33), [7]⟩,
  ⟨.mv (.tmp 0), none, (some 34), [0]⟩,
  ⟨.conv .u32 (.tmp 34), none, (some 35), [34]⟩,
  ⟨.mkfrz [(.int .u32 0)] 1 [(0, (.tmp 35))], none, (some 36), [35]⟩,
  ⟨.call 32 [(.tmp 33), (.lit (.int .i64 4)), (.tmp 36)], none, (some 37), [33, 36]⟩,
  ⟨.mv (.tmp 37), none, (some 7), [37]⟩]
def m12r9 : List MOper := [⟨.mv (.tmp 7), none, (some 38), [7]⟩,
  ⟨.mv (.tmp 6), none, (some 39), [6]⟩,
  ⟨.mv (.tmp 6), none, (some 40), [6]⟩,
  ⟨.bin .sub .other (.lit (.int .u32 65535)) (.tmp 40), none, (some 41), [40]⟩,
  ⟨.mkfrz [(.int .u32 0)] 2 [(0, (.tmp 39)), (1, (.tmp 41))], none, (some 42), [39, 41]⟩,
  ⟨.call 32 [(.tmp 38), (.lit (.int .i64 2)), (.tmp 42)], none, (some 43), [38, 42]⟩,
  ⟨.mv (.tmp 43), none, (some 7), [43]⟩]
def m12r10 : List MOper := [⟨.mv (.tmp 7), none, (some 44), [7]⟩,
  ⟨.faddr 1 (.tmp 3), none, (some 45), [3]⟩,
  ⟨.load none (.tmp 45), none, (some 46), [45]⟩,
  ⟨.append 1 1 (.tmp 44) (.tmp 46), none, (some 47), [44, 46]⟩,
  ⟨.mv (.tmp 47), none, (some 7), [47]⟩]
def m12r11 : List MOper := [⟨.mv (.tmp 7), none, (some 48), [7]⟩,
  ⟨.mv (.tmp 7), none, (some 49), [7]⟩,
  ⟨.call 14 [(.tmp 49)], none, (some 50), [49]⟩,
  ⟨.mkfrz [(.int .u32 0)] 1 [(0, (.tmp 50))], none, (some 51), [50]⟩,
  ⟨.call 32 [(.tmp 48), (.lit (.int .i64 4)), (.tmp 51)], none, (some 52), [48, 51]⟩,
  ⟨.mv (.tmp 52), none, (some 4), [52]⟩,
  ⟨.mv (.lit (.int .u8 0)), none, (some 5), []⟩]
def m12 : MFunc := ⟨53, [.tmp 4, .tmp 5],
  (.seq (.region m12r0 [0, 3])
  (.seq (.seq (.region m12r1 [0, 3, 13])
  (.cond (.tmp 13)
  (.seq (.region m12r2 [4, 5])
  .ret)
  .skip))
  (.seq (.seq (.region m12r3 [0, 3, 17])
  (.cond (.tmp 17)
  (.seq (.region m12r4 [4, 5])
  .ret)
  .skip))
  (.seq (.region m12r5 [0, 3, 6])
  (.seq (.region m12r6 [0, 3, 6, 7])
  (.seq (.region m12r7 [0, 3, 6, 7])
  (.seq (.region m12r8 [3, 6, 7])
  (.seq (.region m12r9 [3, 7])
  (.seq (.region m12r10 [7])
  (.seq (.region m12r11 [4, 5])
  .ret))))))))))⟩
def h12 : List RH := [⟨[0, 3], 0, false, []⟩, ⟨[0, 3, 13], 0, false, []⟩, ⟨[4, 5], 0, false, []⟩, ⟨[0, 3, 17], 0, false, []⟩, ⟨[4, 5], 0, false, []⟩, ⟨[0, 3, 6], 0, false, []⟩, ⟨[0, 3, 6, 7], 0, false, []⟩, ⟨[0, 3, 6, 7], 0, false, []⟩, ⟨[3, 6, 7], 0, false, []⟩, ⟨[3, 7], 0, false, []⟩, ⟨[7], 0, false, []⟩, ⟨[4, 5], 0, false, []⟩]
theorem m12_ok : cmpFn Try.prog 12 h12 = some m12 := by kernel_rfl

/- dialtone/journal.Check -/
def m14r0 : List MOper := [⟨.mv (.lit (.int .u32 0)), none, (some 2), []⟩]
def m14r1 : List MOper := [⟨.mv (.lit (.int .u32 4294967295)), none, (some 3), []⟩]
def m14r2 : List MOper := [⟨.mv (.tmp 0), none, (some 7), [0]⟩,
  ⟨.len 1 (.tmp 7), none, (some 8), [7]⟩,
  ⟨.mv (.lit (.int .i64 0)), none, (some 9), []⟩]
def m14r3 : List MOper := [⟨.bin .lss .other (.tmp 9) (.tmp 8), none, (some 10), [9, 8]⟩]
def m14r4 : List MOper := [⟨.iaddr 1 (.tmp 7) (.tmp 9), none, (some 11), [7, 9]⟩,
  ⟨.load none (.tmp 11), none, (some 12), [11]⟩,
  ⟨.mv (.tmp 12), none, (some 5), [12]⟩]
def m14r5 : List MOper := [⟨.mv (.tmp 3), none, (some 13), [3]⟩,
  ⟨.mv (.tmp 5), none, (some 14), [5]⟩,
  ⟨.conv .u32 (.tmp 14), none, (some 15), [14]⟩,
  ⟨.bin .xor .other (.tmp 13) (.tmp 15), none, (some 16), [13, 15]⟩,
  ⟨.mv (.tmp 16), none, (some 3), [16]⟩]
def m14r6 : List MOper := [⟨.mv (.lit (.int .i64 0)), none, (some 17), []⟩]
def m14r7 : List MOper := [⟨.bin .lss .other (.tmp 17) (.lit (.int .i64 8)), none, (some 18), [17]⟩]
def m14r8 : List MOper := [⟨.mv (.tmp 3), none, (some 19), [3]⟩,
  ⟨.bin .and .other (.tmp 19) (.lit (.int .u32 1)), none, (some 20), [19]⟩,
  ⟨.mv (.tmp 20), none, (some 6), [20]⟩]
def m14r9 : List MOper := [⟨.mv (.tmp 3), none, (some 21), [3]⟩,
  ⟨.bin .shr .other (.tmp 21) (.lit (.int .u64 1)), none, (some 22), [21]⟩,
  ⟨.mv (.tmp 22), none, (some 3), [22]⟩]
def m14r10 : List MOper := [⟨.mv (.tmp 6), none, (some 23), [6]⟩,
  ⟨.bin .eql .other (.tmp 23) (.lit (.int .u32 1)), none, (some 24), [23]⟩]
def m14r11 : List MOper := [⟨.mv (.tmp 3), none, (some 25), [3]⟩,
  ⟨.bin .xor .other (.tmp 25) (.lit (.int .u32 3988292384)), none, (some 26), [25]⟩,
  ⟨.mv (.tmp 26), none, (some 3), [26]⟩]
def m14r12 : List MOper := [⟨.bin .add .other (.tmp 17) (.lit (.int .i64 1)), none, (some 27), [17]⟩,
  ⟨.mv (.tmp 27), none, (some 17), [27]⟩]
def m14l13 : MCode := (.seq (.region m14r7 [3, 7, 8, 9, 17, 18])
  (.seq (.cond (.tmp 18)
  .skip
  (.exit 2))
  (.seq (.block 3 (.seq (.region m14r8 [3, 6, 7, 8, 9, 17])
  (.seq (.region m14r9 [3, 6, 7, 8, 9, 17])
  (.seq (.region m14r10 [3, 7, 8, 9, 17, 24])
  (.cond (.tmp 24)
  (.region m14r11 [3, 7, 8, 9, 17])
  .skip)))))
  (.region m14r12 [3, 7, 8, 9, 17]))))
def m14r14 : List MOper := [⟨.bin .add .other (.tmp 9) (.lit (.int .i64 1)), none, (some 28), [9]⟩,
  ⟨.mv (.tmp 28), none, (some 9), [28]⟩]
def m14l15 : MCode := (.seq (.region m14r3 [3, 7, 8, 9, 10])
  (.seq (.cond (.tmp 10)
  .skip
  (.exit 0))
  (.seq (.block 1 (.seq (.region m14r4 [3, 5, 7, 8, 9])
  (.seq (.region m14r5 [3, 7, 8, 9])
  (.seq (.region m14r6 [3, 7, 8, 9, 17])
  (.block 2 (.loop [3, 7, 8, 9, 17] m14l13))))))
  (.region m14r14 [3, 7, 8, 9]))))
def m14r16 : List MOper := [⟨.mv (.tmp 3), none, (some 29), [3]⟩,
  ⟨.un .xor (.tmp 29), none, (some 30), [29]⟩,
  ⟨.mv (.tmp 30), none, (some 2), [30]⟩]
def m14 : MFunc := ⟨31, [.tmp 2],
  (.seq (.region m14r0 [0])
  (.seq (.region m14r1 [0, 3])
  (.seq (.seq (.region m14r2 [3, 7, 8, 9])
  (.block 0 (.loop [3, 7, 8, 9] m14l15)))
  (.seq (.region m14r16 [2])
  .ret))))⟩
def h14 : List RH := [⟨[0], 0, false, []⟩, ⟨[0, 3], 0, false, []⟩, ⟨[3, 7, 8, 9], 0, false, []⟩, ⟨[3, 7, 8, 9], 0, false, []⟩, ⟨[3, 7, 8, 9, 10], 0, false, []⟩, ⟨[3, 5, 7, 8, 9], 0, false, []⟩, ⟨[3, 7, 8, 9], 0, false, []⟩, ⟨[3, 7, 8, 9, 17], 0, false, []⟩, ⟨[3, 7, 8, 9, 17], 0, false, []⟩, ⟨[3, 7, 8, 9, 17, 18], 0, false, []⟩, ⟨[3, 6, 7, 8, 9, 17], 0, false, []⟩, ⟨[3, 6, 7, 8, 9, 17], 0, false, []⟩, ⟨[3, 7, 8, 9, 17, 24], 0, false, []⟩, ⟨[3, 7, 8, 9, 17], 0, false, []⟩, ⟨[3, 7, 8, 9, 17], 0, false, []⟩, ⟨[3, 7, 8, 9], 0, false, []⟩, ⟨[2], 0, false, []⟩]
theorem m14_ok : cmpFn Try.prog 14 h14 = some m14 := by kernel_rfl

/- dialtone/journal.Scan -/
def m18r0 : List MOper := [⟨.mv (.lit .nils), none, (some 2), []⟩,
  ⟨.mv (.lit (.int .i64 0)), none, (some 3), []⟩,
  ⟨.mv (.lit (.int .u8 0)), none, (some 4), []⟩]
def m18r1 : List MOper := [⟨.mv (.tmp 0), none, (some 9), [0]⟩,
  ⟨.build [.nils, (.int .i64 0)] [(0, 1, (.tmp 9))], none, (some 10), [9]⟩,
  ⟨.box 2 (.tmp 10), none, (some 11), [10]⟩,
  ⟨.mv (.tmp 11), none, (some 5), [11]⟩]
def m18r2 : List MOper := [⟨.mv (.lit .nils), none, (some 6), []⟩]
def m18r3 : List MOper := [⟨.mv (.tmp 5), none, (some 12), [5]⟩,
  ⟨.nilchk (.tmp 12), none, (some 13), [12]⟩,
  ⟨.faddr 0 (.tmp 13), none, (some 14), [13]⟩,
  ⟨.load none (.tmp 14), none, (some 15), [14]⟩,
  ⟨.len 1 (.tmp 15), none, (some 16), [15]⟩,
  ⟨.bin .gtr .other (.tmp 16) (.lit (.int .i64 0)), none, (some 17), [16]⟩]
def m18r4 : List MOper := [⟨.mv (.tmp 5), none, (some 19), [5]⟩,
  ⟨.call 34 [(.tmp 19)], none, (some 20), [19]⟩,
  ⟨.mv (.tmp 20), none, (some 18), [20]⟩,
  ⟨.ext 0 (.tmp 18), none, (some 21), [18]⟩,
  ⟨.ext 1 (.tmp 18), none, (some 22), [18]⟩,
  ⟨.zbox [(.int .u8 0), .nils], none, (some 7), []⟩,
  ⟨.store 2 (.tmp 7) (.tmp 21), none, none, [7, 21]⟩,
  ⟨.mv (.tmp 22), none, (some 8), [22]⟩]
def m18r5 : List MOper := [⟨.mv (.tmp 8), none, (some 23), [8]⟩,
  ⟨.bin .neq .other (.tmp 23) (.lit (.int .u8 0)), none, (some 24), [23]⟩]
def m18r6 : List MOper := [⟨.mv (.tmp 6), none, (some 25), [6]⟩,
  ⟨.mv (.tmp 0), none, (some 26), [0]⟩,
  ⟨.len 1 (.tmp 26), none, (some 27), [26]⟩,
  ⟨.mv (.tmp 5), none, (some 28), [5]⟩,
  ⟨.nilchk (.tmp 28), none, (some 29), [28]⟩,
  ⟨.faddr 0 (.tmp 29), none, (some 30), [29]⟩,
  ⟨.load none (.tmp 30), none, (some 31), [30]⟩,
  ⟨.len 1 (.tmp 31), none, (some 32), [31]⟩,
  ⟨.bin .sub .other (.tmp 27) (.tmp 32), none, (some 33), [27, 32]⟩,
  ⟨.mv (.tmp 8), none, (some 34), [8]⟩,
  ⟨.mv (.tmp 25), none, (some 2), [25]⟩]
def m18r7 : List MOper := [⟨.mv (.tmp 33), none, (some 3), [33]⟩,
  ⟨.mv (.tmp 34), none, (some 4), [34]⟩]
def m18r8 : List MOper := [⟨.mv (.tmp 6), none, (some 35), [6]⟩,
  ⟨.load (some 2) (.tmp 7), none, (some 36), [7]⟩,
  ⟨.mkfrz [(.int .u8 0), .nils] 1 [(0, (.tmp 36))], none, (some 37), [36]⟩,
  ⟨.append 2 32 (.tmp 35) (.tmp 37), none, (some 38), [35, 37]⟩,
  ⟨.mv (.tmp 38), none, (some 6), [38]⟩]
def m18l9 : MCode := (.seq (.seq (.region m18r3 [0, 5, 6, 17])
  (.cond (.tmp 17)
  .skip
  (.exit 0)))
  (.block 1 (.seq (.region m18r4 [0, 5, 6, 7, 8])
  (.seq (.seq (.region m18r5 [0, 5, 6, 7, 8, 24])
  (.cond (.tmp 24)
  (.seq (.dregion m18r6 m18r7 [] [2, 3, 4])
  .ret)
  .skip))
  (.region m18r8 [0, 5, 6])))))
def m18r10 : List MOper := [⟨.mv (.tmp 6), none, (some 39), [6]⟩,
  ⟨.mv (.tmp 0), none, (some 40), [0]⟩,
  ⟨.len 1 (.tmp 40), none, (some 41), [40]⟩,
  ⟨.mv (.tmp 39), none, (some 2), [39]⟩,
  ⟨.mv (.tmp 41), none, (some 3), [41]⟩,
  ⟨.mv (.lit (.int .u8 0)), none, (some 4), []⟩]
def m18 : MFunc := ⟨42, [.tmp 2, .tmp 3, .tmp 4],
  (.seq (.region m18r0 [0])
  (.seq (.region m18r1 [0, 5])
  (.seq (.region m18r2 [0, 5, 6])
  (.seq (.block 0 (.loop [0, 5, 6] m18l9))
  (.seq (.region m18r10 [2, 3, 4])
  .ret)))))⟩
def h18 : List RH := [⟨[0], 0, false, []⟩, ⟨[0, 5], 0, false, []⟩, ⟨[0, 5, 6], 0, false, []⟩, ⟨[0, 5, 6], 0, false, []⟩, ⟨[0, 5, 6, 17], 0, false, []⟩, ⟨[0, 5, 6, 7, 8], 0, false, []⟩, ⟨[0, 5, 6, 7, 8, 24], 0, false, []⟩, ⟨[2, 3, 4], 11, false, []⟩, ⟨[0, 5, 6], 0, false, []⟩, ⟨[2, 3, 4], 0, false, []⟩]
theorem m18_ok : cmpFn Try.prog 18 h18 = some m18 := by kernel_rfl

/- dialtone/dialtoneref20.Same -/
def m19r0 : List MOper := [⟨.mv (.lit (.bool false)), none, (some 4), []⟩]
def m19r1 : List MOper := [⟨.mv (.tmp 0), none, (some 6), [0]⟩,
  ⟨.len 1 (.tmp 6), none, (some 7), [6]⟩,
  ⟨.mv (.tmp 1), none, (some 8), [1]⟩,
  ⟨.len 1 (.tmp 8), none, (some 9), [8]⟩,
  ⟨.bin .neq .other (.tmp 7) (.tmp 9), none, (some 10), [7, 9]⟩]
def m19r2 : List MOper := [⟨.mv (.lit (.bool false)), none, (some 4), []⟩]
def m19r3 : List MOper := [⟨.mv (.lit (.int .i64 0)), none, (some 5), []⟩]
def m19r4 : List MOper := [⟨.mv (.tmp 5), none, (some 11), [5]⟩,
  ⟨.mv (.tmp 0), none, (some 12), [0]⟩,
  ⟨.len 1 (.tmp 12), none, (some 13), [12]⟩,
  ⟨.bin .lss .other (.tmp 11) (.tmp 13), none, (some 14), [11, 13]⟩]
def m19r5 : List MOper := [⟨.mv (.tmp 0), none, (some 17), [0]⟩,
  ⟨.mv (.tmp 5), none, (some 18), [5]⟩,
  ⟨.iaddr 2 (.tmp 17) (.tmp 18), none, (some 19), [17, 18]⟩,
  ⟨.faddr 0 (.tmp 19), none, (some 20), [19]⟩,
  ⟨.load none (.tmp 20), none, (some 21), [20]⟩,
  ⟨.mv (.tmp 1), none, (some 22), [1]⟩,
  ⟨.mv (.tmp 5), none, (some 23), [5]⟩,
  ⟨.iaddr 2 (.tmp 22) (.tmp 23), none, (some 24), [22, 23]⟩,
  ⟨.faddr 0 (.tmp 24), none, (some 25), [24]⟩,
  ⟨.load none (.tmp 25), none, (some 26), [25]⟩,
  ⟨.bin .neq .other (.tmp 21) (.tmp 26), none, (some 27), [21, 26]⟩,
  ⟨.mv (.tmp 27), none, (some 28), [27]⟩,
  ⟨.mv (.tmp 0), (some (28, false)), (some 29), [0]⟩,
  ⟨.mv (.tmp 5), (some (28, false)), (some 30), [5]⟩,
  ⟨.iaddr 2 (.tmp 29) (.tmp 30), (some (28, false)), (some 31), [29, 30]⟩,
  ⟨.faddr 1 (.tmp 31), (some (28, false)), (some 32), [31]⟩,
  ⟨.load none (.tmp 32), (some (28, false)), (some 33), [32]⟩,
  ⟨.tostr (.tmp 33), (some (28, false)), (some 34), [33]⟩,
  ⟨.mv (.tmp 1), (some (28, false)), (some 35), [1]⟩,
  ⟨.mv (.tmp 5), (some (28, false)), (some 36), [5]⟩,
  ⟨.iaddr 2 (.tmp 35) (.tmp 36), (some (28, false)), (some 37), [35, 36]⟩,
  ⟨.faddr 1 (.tmp 37), (some (28, false)), (some 38), [37]⟩,
  ⟨.load none (.tmp 38), (some (28, false)), (some 39), [38]⟩,
  ⟨.tostr (.tmp 39), (some (28, false)), (some 40), [39]⟩]
def m19r6 : List MOper := [⟨.bin .neq .other (.tmp 34) (.tmp 40), (some (28, false)), (some 41), [34, 40]⟩,
  ⟨.pick (.tmp 28) (.lit (.bool true)) (.tmp 41), none, (some 42), [28, 41]⟩]
def m19r7 : List MOper := [⟨.mv (.lit (.bool false)), none, (some 4), []⟩]
def m19r8 : List MOper := [⟨.mv (.tmp 5), none, (some 15), [5]⟩,
  ⟨.bin .add .other (.tmp 15) (.lit (.int .i64 1)), none, (some 16), [15]⟩,
  ⟨.mv (.tmp 16), none, (some 5), [16]⟩]
def m19l9 : MCode := (.seq (.seq (.region m19r4 [0, 1, 5, 14])
  (.cond (.tmp 14)
  .skip
  (.exit 0)))
  (.seq (.block 1 (.seq (.dregion m19r5 m19r6 [] [0, 1, 5, 42])
  (.cond (.tmp 42)
  (.seq (.region m19r7 [4])
  .ret)
  .skip)))
  (.region m19r8 [0, 1, 5])))
def m19r10 : List MOper := [⟨.mv (.lit (.bool true)), none, (some 4), []⟩]
def m19 : MFunc := ⟨43, [.tmp 4],
  (.seq (.region m19r0 [0, 1])
  (.seq (.seq (.region m19r1 [0, 1, 10])
  (.cond (.tmp 10)
  (.seq (.region m19r2 [4])
  .ret)
  .skip))
  (.seq (.seq (.region m19r3 [0, 1, 5])
  (.block 0 (.loop [0, 1, 5] m19l9)))
  (.seq (.region m19r10 [4])
  .ret))))⟩
def h19 : List RH := [⟨[0, 1], 0, false, []⟩, ⟨[0, 1, 10], 0, false, []⟩, ⟨[4], 0, false, []⟩, ⟨[0, 1, 5], 0, false, []⟩, ⟨[0, 1, 5], 0, false, []⟩, ⟨[0, 1, 5, 14], 0, false, []⟩, ⟨[0, 1, 5, 42], 24, false, []⟩, ⟨[4], 0, false, []⟩, ⟨[0, 1, 5], 0, false, []⟩, ⟨[4], 0, false, []⟩]
theorem m19_ok : cmpFn Try.prog 19 h19 = some m19 := by kernel_rfl

/- dialtone/journal.Append -/
def m25r0 : List MOper := [⟨.box 3 (.tmp 0), none, (some 2), [0]⟩,
  ⟨.box 2 (.tmp 1), none, (some 3), [1]⟩,
  ⟨.zbox [.nils, (.int .i64 0), (.int .i64 0)], none, (some 4), []⟩,
  ⟨.mv (.lit (.int .u8 0)), none, (some 5), []⟩]
def m25r1 : List MOper := [⟨.load (some 3) (.tmp 2), none, (some 9), [2]⟩,
  ⟨.call 27 [(.tmp 9)], none, (some 10), [9]⟩,
  ⟨.un .not (.tmp 10), none, (some 11), [10]⟩,
  ⟨.mv (.tmp 11), none, (some 8), [11]⟩]
def m25r2 : List MOper := [⟨.build [.nils, (.int .i64 0), (.int .i64 0)] [], none, (some 12), []⟩,
  ⟨.store 3 (.tmp 4) (.tmp 12), none, none, [4, 12]⟩,
  ⟨.mv (.lit (.int .u8 2)), none, (some 5), []⟩]
def m25r3 : List MOper := [⟨.faddr 2 (.tmp 2), none, (some 14), [2]⟩,
  ⟨.load none (.tmp 14), none, (some 15), [14]⟩,
  ⟨.bin .eql .other (.tmp 15) (.lit (.int .i64 1048576)), none, (some 16), [15]⟩,
  ⟨.mv (.tmp 16), none, (some 13), [16]⟩]
def m25r4 : List MOper := [⟨.build [.nils, (.int .i64 0), (.int .i64 0)] [], none, (some 17), []⟩,
  ⟨.store 3 (.tmp 4) (.tmp 17), none, none, [4, 17]⟩,
  ⟨.mv (.lit (.int .u8 10)), none, (some 5), []⟩]
def m25r5 : List MOper := [⟨.faddr 2 (.tmp 2), none, (some 19), [2]⟩,
  ⟨.load none (.tmp 19), none, (some 20), [19]⟩,
  ⟨.load (some 2) (.tmp 3), none, (some 21), [3]⟩,
  ⟨.call 12 [(.tmp 20), (.tmp 21)], none, (some 22), [20, 21]⟩,
  ⟨.mv (.tmp 22), none, (some 18), [22]⟩,
  ⟨.ext 0 (.tmp 18), none, (some 23), [18]⟩,
  ⟨.ext 1 (.tmp 18), none, (some 24), [18]⟩,
  ⟨.mv (.tmp 23), none, (some 6), [23]⟩,
  ⟨.mv (.tmp 24), none, (some 7), [24]⟩]
def m25r6 : List MOper := [⟨.mv (.tmp 7), none, (some 25), [7]⟩,
  ⟨.bin .neq .other (.tmp 25) (.lit (.int .u8 0)), none, (some 26), [25]⟩]
def m25r7 : List MOper := [⟨.build [.nils, (.int .i64 0), (.int .i64 0)] [], none, (some 27), []⟩,
  ⟨.mv (.tmp 7), none, (some 28), [7]⟩,
  ⟨.store 3 (.tmp 4) (.tmp 27), none, none, [4, 27]⟩,
  ⟨.mv (.tmp 28), none, (some 5), [28]⟩]
def m25r8 : List MOper := [⟨.faddr 0 (.tmp 2), none, (some 29), [2]⟩,
  ⟨.load none (.tmp 29), none, (some 30), [29]⟩,
  ⟨.append 1 1 (.lit .nils) (.tmp 30), none, (some 31), [30]⟩,
  ⟨.mv (.tmp 6), none, (some 32), [6]⟩,
  ⟨.append 1 1 (.tmp 31) (.tmp 32), none, (some 33), [31, 32]⟩,
  ⟨.faddr 0 (.tmp 2), none, (some 34), [2]⟩,
  ⟨.store 1 (.tmp 34) (.tmp 33), none, none, [34, 33]⟩]
def m25r9 : List MOper := [⟨.faddr 2 (.tmp 2), none, (some 35), [2]⟩,
  ⟨.load none (.tmp 35), none, (some 36), [35]⟩,
  ⟨.bin .add .other (.tmp 36) (.lit (.int .i64 1)), none, (some 37), [36]⟩,
  ⟨.faddr 2 (.tmp 2), none, (some 38), [2]⟩,
  ⟨.store 1 (.tmp 38) (.tmp 37), none, none, [38, 37]⟩]
def m25r10 : List MOper := [⟨.load (some 3) (.tmp 2), none, (some 39), [2]⟩,
  ⟨.store 3 (.tmp 4) (.tmp 39), none, none, [4, 39]⟩,
  ⟨.mv (.lit (.int .u8 0)), none, (some 5), []⟩]
def m25 : MFunc := ⟨40, [.cell 4 (some 3), .tmp 5],
  (.seq (.region m25r0 [2, 3, 4])
  (.seq (.block 0 (.seq (.region m25r1 [2, 3, 4, 8])
  (.cond (.tmp 8)
  (.seq (.region m25r2 [4, 5])
  .ret)
  (.seq (.region m25r3 [2, 3, 4, 13])
  (.cond (.tmp 13)
  (.seq (.region m25r4 [4, 5])
  .ret)
  .skip)))))
  (.seq (.region m25r5 [2, 4, 6, 7])
  (.seq (.seq (.region m25r6 [2, 4, 6, 7, 26])
  (.cond (.tmp 26)
  (.seq (.region m25r7 [4, 5])
  .ret)
  .skip))
  (.seq (.region m25r8 [2, 4])
  (.seq (.region m25r9 [2, 4])
  (.seq (.region m25r10 [4, 5])
  .ret)))))))⟩
def h25 : List RH := [⟨[2, 3, 4], 0, false, []⟩, ⟨[2, 3, 4, 8], 0, false, []⟩, ⟨[4, 5], 0, false, []⟩, ⟨[2, 3, 4, 13], 0, false, []⟩, ⟨[4, 5], 0, false, []⟩, ⟨[2, 4, 6, 7], 0, false, []⟩, ⟨[2, 4, 6, 7, 26], 0, false, []⟩, ⟨[4, 5], 0, false, []⟩, ⟨[2, 4], 0, false, []⟩, ⟨[2, 4], 0, false, []⟩, ⟨[4, 5], 0, false, []⟩]
theorem m25_ok : cmpFn Try.prog 25 h25 = some m25 := by kernel_rfl

/- dialtone/journal.Valid -/
def m27r0 : List MOper := [⟨.box 3 (.tmp 0), none, (some 1), [0]⟩,
  ⟨.mv (.lit (.bool false)), none, (some 2), []⟩]
def m27r1 : List MOper := [⟨.faddr 1 (.tmp 1), none, (some 3), [1]⟩,
  ⟨.load none (.tmp 3), none, (some 4), [3]⟩,
  ⟨.bin .geq .other (.tmp 4) (.lit (.int .i64 0)), none, (some 5), [4]⟩,
  ⟨.mv (.tmp 5), none, (some 6), [5]⟩,
  ⟨.faddr 1 (.tmp 1), (some (6, true)), (some 7), [1]⟩,
  ⟨.load none (.tmp 7), (some (6, true)), (some 8), [7]⟩,
  ⟨.faddr 0 (.tmp 1), (some (6, true)), (some 9), [1]⟩,
  ⟨.load none (.tmp 9), (some (6, true)), (some 10), [9]⟩,
  ⟨.len 1 (.tmp 10), (some (6, true)), (some 11), [10]⟩,
  ⟨.bin .leq .other (.tmp 8) (.tmp 11), (some (6, true)), (some 12), [8, 11]⟩,
  ⟨.pick (.tmp 6) (.tmp 12) (.lit (.bool false)), none, (some 13), [6, 12]⟩,
  ⟨.mv (.tmp 13), none, (some 14), [13]⟩,
  ⟨.faddr 2 (.tmp 1), (some (14, true)), (some 15), [1]⟩,
  ⟨.load none (.tmp 15), (some (14, true)), (some 16), [15]⟩,
  ⟨.bin .geq .other (.tmp 16) (.lit (.int .i64 0)), (some (14, true)), (some 17), [16]⟩,
  ⟨.pick (.tmp 14) (.tmp 17) (.lit (.bool false)), none, (some 18), [14, 17]⟩,
  ⟨.mv (.tmp 18), none, (some 19), [18]⟩,
  ⟨.faddr 2 (.tmp 1), (some (19, true)), (some 20), [1]⟩,
  ⟨.load none (.tmp 20), (some (19, true)), (some 21), [20]⟩,
  ⟨.bin .leq .other (.tmp 21) (.lit (.int .i64 1048576)), (some (19, true)), (some 22), [21]⟩,
  ⟨.pick (.tmp 19) (.tmp 22) (.lit (.bool false)), none, (some 23), [19, 22]⟩,
  ⟨.mv (.tmp 23), none, (some 2), [23]⟩]
def m27 : MFunc := ⟨24, [.tmp 2],
  (.seq (.region m27r0 [1])
  (.seq (.region m27r1 [2])
  .ret))⟩
def h27 : List RH := [⟨[1], 0, false, []⟩, ⟨[2], 0, false, []⟩]
theorem m27_ok : cmpFn Try.prog 27 h27 = some m27 := by kernel_rfl

/- dialtone/journal.put -/
def m32r0 : List MOper := [⟨.mv (.lit .nils), none, (some 6), []⟩]
def m32r1 : List MOper := [⟨.mv (.tmp 2), none, (some 10), [2]⟩,
  ⟨.len 1 (.tmp 10), none, (some 11), [10]⟩,
  ⟨.mv (.lit (.int .i64 0)), none, (some 12), []⟩]
def m32r2 : List MOper := [⟨.bin .lss .other (.tmp 12) (.tmp 11), none, (some 13), [12, 11]⟩]
def m32r3 : List MOper := [⟨.iaddr 1 (.tmp 10) (.tmp 12), none, (some 14), [10, 12]⟩,
  ⟨.load none (.tmp 14), none, (some 15), [14]⟩,
  ⟨.mv (.tmp 15), none, (some 8), [15]⟩]
def m32r4 : List MOper := [⟨.mv (.tmp 1), none, (some 16), [1]⟩,
  ⟨.bin .sub .other (.tmp 16) (.lit (.int .i64 1)), none, (some 17), [16]⟩,
  ⟨.mv (.tmp 17), none, (some 9), [17]⟩]
def m32r5 : List MOper := [⟨.mv (.tmp 9), none, (some 18), [9]⟩,
  ⟨.bin .geq .other (.tmp 18) (.lit (.int .i64 0)), none, (some 19), [18]⟩]
def m32r6 : List MOper := [⟨.mv (.tmp 0), none, (some 22), [0]⟩,
  ⟨.mv (.tmp 8), none, (some 23), [8]⟩,
  ⟨.mv (.tmp 9), none, (some 24), [9]⟩,
  ⟨.bin .mul .other (.lit (.int .i64 8)) (.tmp 24), none, (some 25), [24]⟩,
  ⟨.bin .shr .other (.tmp 23) (.tmp 25), none, (some 26), [23, 25]⟩,
  ⟨.conv .u8 (.tmp 26), none, (some 27), [26]⟩,
  ⟨.mkfrz [(.int .u8 0)] 1 [(0, (.tmp 27))], none, (some 28), [27]⟩,
  ⟨.append 1 1 (.tmp 22) (.tmp 28), none, (some 29), [22, 28]⟩,
  ⟨.mv (.tmp 29), none, (some 0), [29]⟩]
def m32r7 : List MOper := [⟨.mv (.tmp 9), none, (some 20), [9]⟩,
  ⟨.bin .sub .other (.tmp 20) (.lit (.int .i64 1)), none, (some 21), [20]⟩,
  ⟨.mv (.tmp 21), none, (some 9), [21]⟩]
def m32l8 : MCode := (.seq (.seq (.region m32r5 [0, 1, 8, 9, 10, 11, 12, 19])
  (.cond (.tmp 19)
  .skip
  (.exit 2)))
  (.seq (.block 3 (.region m32r6 [0, 1, 8, 9, 10, 11, 12]))
  (.region m32r7 [0, 1, 8, 9, 10, 11, 12])))
def m32r9 : List MOper := [⟨.bin .add .other (.tmp 12) (.lit (.int .i64 1)), none, (some 30), [12]⟩,
  ⟨.mv (.tmp 30), none, (some 12), [30]⟩]
def m32l10 : MCode := (.seq (.region m32r2 [0, 1, 10, 11, 12, 13])
  (.seq (.cond (.tmp 13)
  .skip
  (.exit 0))
  (.seq (.block 1 (.seq (.region m32r3 [0, 1, 8, 10, 11, 12])
  (.seq (.region m32r4 [0, 1, 8, 9, 10, 11, 12])
  (.block 2 (.loop [0, 1, 8, 9, 10, 11, 12] m32l8)))))
  (.region m32r9 [0, 1, 10, 11, 12]))))
def m32r11 : List MOper := [⟨.mv (.tmp 0), none, (some 31), [0]⟩,
  ⟨.mv (.tmp 31), none, (some 6), [31]⟩]
def m32 : MFunc := ⟨32, [.tmp 6],
  (.seq (.region m32r0 [0, 1, 2])
  (.seq (.seq (.region m32r1 [0, 1, 10, 11, 12])
  (.block 0 (.loop [0, 1, 10, 11, 12] m32l10)))
  (.seq (.region m32r11 [6])
  .ret)))⟩
def h32 : List RH := [⟨[0, 1, 2], 0, false, []⟩, ⟨[0, 1, 10, 11, 12], 0, false, []⟩, ⟨[0, 1, 10, 11, 12], 0, false, []⟩, ⟨[0, 1, 10, 11, 12, 13], 0, false, []⟩, ⟨[0, 1, 8, 10, 11, 12], 0, false, []⟩, ⟨[0, 1, 8, 9, 10, 11, 12], 0, false, []⟩, ⟨[0, 1, 8, 9, 10, 11, 12], 0, false, []⟩, ⟨[0, 1, 8, 9, 10, 11, 12, 19], 0, false, []⟩, ⟨[0, 1, 8, 9, 10, 11, 12], 0, false, []⟩, ⟨[0, 1, 8, 9, 10, 11, 12], 0, false, []⟩, ⟨[0, 1, 10, 11, 12], 0, false, []⟩, ⟨[6], 0, false, []⟩]
theorem m32_ok : cmpFn Try.prog 32 h32 = some m32 := by kernel_rfl

/- (*dialtone/journal.cursor).next -/
def m34r0 : List MOper := [⟨.zbox [(.int .u8 0), .nils], none, (some 2), []⟩,
  ⟨.mv (.lit (.int .u8 0)), none, (some 3), []⟩]
def m34r1 : List MOper := [⟨.mv (.tmp 0), none, (some 8), [0]⟩,
  ⟨.nilchk (.tmp 8), none, (some 9), [8]⟩,
  ⟨.faddr 0 (.tmp 9), none, (some 10), [9]⟩,
  ⟨.load none (.tmp 10), none, (some 11), [10]⟩,
  ⟨.mv (.tmp 11), none, (some 4), [11]⟩]
def m34r2 : List MOper := [⟨.mv (.tmp 0), none, (some 12), [0]⟩,
  ⟨.nilchk (.tmp 12), none, (some 13), [12]⟩,
  ⟨.faddr 1 (.tmp 13), none, (some 14), [13]⟩,
  ⟨.load none (.tmp 14), none, (some 15), [14]⟩,
  ⟨.bin .geq .other (.tmp 15) (.lit (.int .i64 1048576)), none, (some 16), [15]⟩,
  ⟨.mv (.tmp 16), none, (some 17), [16]⟩,
  ⟨.mv (.tmp 0), (some (17, false)), (some 18), [0]⟩,
  ⟨.call 37 [(.tmp 18)], (some (17, false)), (some 19), [18]⟩,
  ⟨.pick (.tmp 17) (.lit (.bool true)) (.tmp 19), none, (some 20), [17, 19]⟩]
def m34r3 : List MOper := [⟨.build [(.int .u8 0), .nils] [], none, (some 21), []⟩,
  ⟨.store 2 (.tmp 2) (.tmp 21), none, none, [2, 21]⟩,
  ⟨.mv (.lit (.int .u8 5)), none, (some 3), []⟩]
def m34r4 : List MOper := [⟨.mv (.tmp 4), none, (some 22), [4]⟩,
  ⟨.len 1 (.tmp 22), none, (some 23), [22]⟩,
  ⟨.bin .lss .other (.tmp 23) (.lit (.int .i64 10)), none, (some 24), [23]⟩]
def m34r5 : List MOper := [⟨.build [(.int .u8 0), .nils] [], none, (some 25), []⟩,
  ⟨.store 2 (.tmp 2) (.tmp 25), none, none, [2, 25]⟩,
  ⟨.mv (.lit (.int .u8 6)), none, (some 3), []⟩]
def m34r6 : List MOper := [⟨.mv (.tmp 4), none, (some 26), [4]⟩,
  ⟨.iaddr 1 (.tmp 26) (.lit (.int .i64 6)), none, (some 27), [26]⟩,
  ⟨.load none (.tmp 27), none, (some 28), [27]⟩,
  ⟨.conv .i64 (.tmp 28), none, (some 29), [28]⟩,
  ⟨.bin .shl .other (.tmp 29) (.lit (.int .u64 8)), none, (some 30), [29]⟩,
  ⟨.bin .add .other (.lit (.int .i64 10)) (.tmp 30), none, (some 31), [30]⟩,
  ⟨.mv (.tmp 4), none, (some 32), [4]⟩,
  ⟨.iaddr 1 (.tmp 32) (.lit (.int .i64 7)), none, (some 33), [32]⟩,
  ⟨.load none (.tmp 33), none, (some 34), [33]⟩,
  ⟨.conv .i64 (.tmp 34), none, (some 35), [34]⟩]
def m34r7 : List MOper := [⟨.bin .add .other (.tmp 31) (.tmp 35), none, (some 36), [31, 35]⟩,
  ⟨.mv (.tmp 36), none, (some 5), [36]⟩]
def m34r8 : List MOper := [⟨.mv (.tmp 4), none, (some 37), [4]⟩,
  ⟨.len 1 (.tmp 37), none, (some 38), [37]⟩,
  ⟨.mv (.tmp 5), none, (some 39), [5]⟩,
  ⟨.bin .add .other (.tmp 39) (.lit (.int .i64 4)), none, (some 40), [39]⟩,
  ⟨.bin .lss .other (.tmp 38) (.tmp 40), none, (some 41), [38, 40]⟩]
def m34r9 : List MOper := [⟨.build [(.int .u8 0), .nils] [], none, (some 42), []⟩,
  ⟨.store 2 (.tmp 2) (.tmp 42), none, none, [2, 42]⟩,
  ⟨.mv (.lit (.int .u8 6)), none, (some 3), []⟩]
def m34r10 : List MOper := [⟨.mv (.tmp 4), none, (some 43), [4]⟩,
  ⟨.mv (.tmp 5), none, (some 44), [5]⟩,
  ⟨.mv (.tmp 5), none, (some 45), [5]⟩,
  ⟨.slc 1 (.tmp 43) none (some (.tmp 44)) (some (.tmp 45)), none, (some 46), [43, 44, 45]⟩,
  ⟨.call 14 [(.tmp 46)], none, (some 47), [46]⟩,
  ⟨.mkfrz [(.int .u32 0)] 1 [(0, (.tmp 47))], none, (some 48), [47]⟩,
  ⟨.call 32 [(.lit .nils), (.lit (.int .i64 4)), (.tmp 48)], none, (some 49), [48]⟩,
  ⟨.mv (.tmp 49), none, (some 6), [49]⟩]
def m34r11 : List MOper := [⟨.mv (.tmp 6), none, (some 50), [6]⟩,
  ⟨.tostr (.tmp 50), none, (some 51), [50]⟩,
  ⟨.mv (.tmp 4), none, (some 52), [4]⟩,
  ⟨.mv (.tmp 5), none, (some 53), [5]⟩,
  ⟨.mv (.tmp 5), none, (some 54), [5]⟩,
  ⟨.bin .add .other (.tmp 54) (.lit (.int .i64 4)), none, (some 55), [54]⟩,
  ⟨.mv (.tmp 5), none, (some 56), [5]⟩,
  ⟨.bin .add .other (.tmp 56) (.lit (.int .i64 4)), none, (some 57), [56]⟩,
  ⟨.slc 1 (.tmp 52) (some (.tmp 53)) (some (.tmp 55)) (some (.tmp 57)), none, (some 58), [52, 53, 55, 57]⟩,
  ⟨.tostr (.tmp 58), none, (some 59), [58]⟩]
def m34r12 : List MOper := [⟨.bin .neq .other (.tmp 51) (.tmp 59), none, (some 60), [51, 59]⟩]
def m34r13 : List MOper := [⟨.build [(.int .u8 0), .nils] [], none, (some 61), []⟩,
  ⟨.store 2 (.tmp 2) (.tmp 61), none, none, [2, 61]⟩,
  ⟨.mv (.lit (.int .u8 11)), none, (some 3), []⟩]
def m34r14 : List MOper := [⟨.mv (.tmp 4), none, (some 62), [4]⟩,
  ⟨.iaddr 1 (.tmp 62) (.lit (.int .i64 1)), none, (some 63), [62]⟩,
  ⟨.load none (.tmp 63), none, (some 64), [63]⟩,
  ⟨.mv (.tmp 5), none, (some 65), [5]⟩,
  ⟨.bin .sub .other (.tmp 65) (.lit (.int .i64 10)), none, (some 66), [65]⟩,
  ⟨.make [(.int .u8 0)] 1 (.tmp 66) (.tmp 66), none, (some 67), [66, 66]⟩,
  ⟨.build [(.int .u8 0), .nils] [(0, 1, (.tmp 64)), (1, 1, (.tmp 67))], none, (some 68), [64, 67]⟩,
  ⟨.zbox [(.int .u8 0), .nils], none, (some 7), []⟩]
def m34r15 : List MOper := [⟨.store 2 (.tmp 7) (.tmp 68), none, none, [7, 68]⟩]
def m34r16 : List MOper := [⟨.faddr 1 (.tmp 7), none, (some 69), [7]⟩,
  ⟨.load none (.tmp 69), none, (some 70), [69]⟩,
  ⟨.mv (.tmp 4), none, (some 71), [4]⟩,
  ⟨.mv (.tmp 5), none, (some 72), [5]⟩]
def m34r17 : List MOper := [⟨.mv (.tmp 5), none, (some 73), [5]⟩,
  ⟨.slc 1 (.tmp 71) (some (.lit (.int .i64 10))) (some (.tmp 72)) (some (.tmp 73)), none, (some 74), [71, 72, 73]⟩,
  ⟨.copy 1 (.tmp 70) (.tmp 74), none, (some 75), [70, 74]⟩]
def m34r18 : List MOper := [⟨.load none (.tmp 69), none, (some 70), [69]⟩]
def m34r19 : List MOper := [⟨.load none (.tmp 69), none, (some 70), [69]⟩]
def m34r20 : List MOper := [⟨.load none (.tmp 69), none, (some 70), [69]⟩]
def m34r21 : List MOper := [⟨.mv (.tmp 0), none, (some 76), [0]⟩,
  ⟨.mv (.tmp 4), none, (some 77), [4]⟩,
  ⟨.mv (.tmp 5), none, (some 78), [5]⟩,
  ⟨.bin .add .other (.tmp 78) (.lit (.int .i64 4)), none, (some 79), [78]⟩,
  ⟨.slc 1 (.tmp 77) (some (.tmp 79)) none none, none, (some 80), [77, 79]⟩,
  ⟨.nilchk (.tmp 76), none, (some 81), [76]⟩,
  ⟨.faddr 0 (.tmp 81), none, (some 82), [81]⟩,
  ⟨.store 1 (.tmp 82) (.tmp 80), none, none, [82, 80]⟩]
def m34r22 : List MOper := [⟨.mv (.tmp 0), none, (some 83), [0]⟩,
  ⟨.nilchk (.tmp 83), none, (some 84), [83]⟩,
  ⟨.faddr 1 (.tmp 84), none, (some 85), [84]⟩,
  ⟨.load none (.tmp 85), none, (some 86), [85]⟩,
  ⟨.bin .add .other (.tmp 86) (.lit (.int .i64 1)), none, (some 87), [86]⟩,
  ⟨.nilchk (.tmp 83), none, (some 88), [83]⟩,
  ⟨.faddr 1 (.tmp 88), none, (some 89), [88]⟩,
  ⟨.store 1 (.tmp 89) (.tmp 87), none, none, [89, 87]⟩]
def m34r23 : List MOper := [⟨.load (some 2) (.tmp 7), none, (some 90), [7]⟩,
  ⟨.store 2 (.tmp 2) (.tmp 90), none, none, [2, 90]⟩,
  ⟨.mv (.lit (.int .u8 0)), none, (some 3), []⟩]
def m34 : MFunc := ⟨91, [.cell 2 (some 2), .tmp 3],
  (.seq (.region m34r0 [0, 2])
  (.seq (.region m34r1 [0, 2, 4])
  (.seq (.seq (.region m34r2 [0, 2, 4, 20])
  (.cond (.tmp 20)
  (.seq (.region m34r3 [2, 3])
  .ret)
  .skip))
  (.seq (.seq (.region m34r4 [0, 2, 4, 24])
  (.cond (.tmp 24)
  (.seq (.region m34r5 [2, 3])
  .ret)
  .skip))
  (.seq (.dregion m34r6 m34r7 [] [0, 2, 4, 5])
  (.seq (.seq (.region m34r8 [0, 2, 4, 5, 41])
  (.cond (.tmp 41)
  (.seq (.region m34r9 [2, 3])
  .ret)
  .skip))
  (.seq (.region m34r10 [0, 2, 4, 5, 6])
  (.seq (.seq (.dregion m34r11 m34r12 [] [0, 2, 4, 5, 60])
  (.cond (.tmp 60)
  (.seq (.region m34r13 [2, 3])
  .ret)
  .skip))
  (.seq (.dregion m34r14 m34r15 [] [0, 2, 4, 5, 7])
  (.seq (.dregion m34r16 m34r17 [m34r18, m34r19, m34r20, []] [0, 2, 4, 5, 7])
  (.seq (.region m34r21 [0, 2, 7])
  (.seq (.region m34r22 [2, 7])
  (.seq (.region m34r23 [2, 3])
  .ret)))))))))))))⟩
def h34 : List RH := [⟨[0, 2], 0, false, []⟩, ⟨[0, 2, 4], 0, false, []⟩, ⟨[0, 2, 4, 20], 0, false, []⟩, ⟨[2, 3], 0, false, []⟩, ⟨[0, 2, 4, 24], 0, false, []⟩, ⟨[2, 3], 0, false, []⟩, ⟨[0, 2, 4, 5], 10, false, []⟩, ⟨[0, 2, 4, 5, 41], 0, false, []⟩, ⟨[2, 3], 0, false, []⟩, ⟨[0, 2, 4, 5, 6], 0, false, []⟩, ⟨[0, 2, 4, 5, 60], 10, false, []⟩, ⟨[2, 3], 0, false, []⟩, ⟨[0, 2, 4, 5, 7], 8, false, []⟩, ⟨[0, 2, 4, 5, 7], 4, false, []⟩, ⟨[0, 2, 7], 0, false, []⟩, ⟨[2, 7], 0, false, []⟩, ⟨[2, 3], 0, false, []⟩]
theorem m34_ok : cmpFn Try.prog 34 h34 = some m34 := by kernel_rfl

/- (*dialtone/journal.cursor).damaged -/
def m37r0 : List MOper := [⟨.mv (.lit (.bool false)), none, (some 2), []⟩]
def m37r1 : List MOper := [⟨.mv (.tmp 0), none, (some 6), [0]⟩,
  ⟨.nilchk (.tmp 6), none, (some 7), [6]⟩,
  ⟨.faddr 0 (.tmp 7), none, (some 8), [7]⟩,
  ⟨.load none (.tmp 8), none, (some 9), [8]⟩,
  ⟨.mv (.tmp 9), none, (some 3), [9]⟩]
def m37r2 : List MOper := [⟨.mkslice [(.int .u8 0)] 2 [(0, (.lit (.int .u8 167))), (1, (.lit (.int .u8 0)))], none, (some 10), []⟩,
  ⟨.mv (.tmp 0), none, (some 11), [0]⟩,
  ⟨.nilchk (.tmp 11), none, (some 12), [11]⟩,
  ⟨.faddr 1 (.tmp 12), none, (some 13), [12]⟩,
  ⟨.load none (.tmp 13), none, (some 14), [13]⟩,
  ⟨.conv .u32 (.tmp 14), none, (some 15), [14]⟩,
  ⟨.mkfrz [(.int .u32 0)] 1 [(0, (.tmp 15))], none, (some 16), [15]⟩,
  ⟨.call 32 [(.tmp 10), (.lit (.int .i64 4)), (.tmp 16)], none, (some 17), [10, 16]⟩,
  ⟨.mv (.tmp 17), none, (some 4), [17]⟩]
def m37r3 : List MOper := [⟨.mv (.tmp 3), none, (some 18), [3]⟩,
  ⟨.len 1 (.tmp 18), none, (some 19), [18]⟩,
  ⟨.mv (.tmp 4), none, (some 20), [4]⟩,
  ⟨.len 1 (.tmp 20), none, (some 21), [20]⟩,
  ⟨.minmax false (.tmp 19) [(.tmp 21)], none, (some 22), [19, 21]⟩,
  ⟨.mv (.lit (.int .i64 0)), none, (some 23), []⟩]
def m37r4 : List MOper := [⟨.bin .lss .other (.tmp 23) (.tmp 22), none, (some 24), [23, 22]⟩]
def m37r5 : List MOper := [⟨.mv (.tmp 23), none, (some 25), [23]⟩,
  ⟨.mv (.tmp 25), none, (some 5), [25]⟩]
def m37r6 : List MOper := [⟨.mv (.tmp 5), none, (some 26), [5]⟩,
  ⟨.bin .neq .other (.tmp 26) (.lit (.int .i64 1)), none, (some 27), [26]⟩,
  ⟨.mv (.tmp 27), none, (some 28), [27]⟩,
  ⟨.mv (.tmp 3), (some (28, true)), (some 29), [3]⟩,
  ⟨.mv (.tmp 5), (some (28, true)), (some 30), [5]⟩,
  ⟨.iaddr 1 (.tmp 29) (.tmp 30), (some (28, true)), (some 31), [29, 30]⟩,
  ⟨.load none (.tmp 31), (some (28, true)), (some 32), [31]⟩,
  ⟨.mv (.tmp 4), (some (28, true)), (some 33), [4]⟩,
  ⟨.mv (.tmp 5), (some (28, true)), (some 34), [5]⟩,
  ⟨.iaddr 1 (.tmp 33) (.tmp 34), (some (28, true)), (some 35), [33, 34]⟩,
  ⟨.load none (.tmp 35), (some (28, true)), (some 36), [35]⟩]
def m37r7 : List MOper := [⟨.bin .neq .other (.tmp 32) (.tmp 36), (some (28, true)), (some 37), [32, 36]⟩,
  ⟨.pick (.tmp 28) (.tmp 37) (.lit (.bool false)), none, (some 38), [28, 37]⟩]
def m37r8 : List MOper := [⟨.mv (.lit (.bool true)), none, (some 2), []⟩]
def m37r9 : List MOper := [⟨.bin .add .other (.tmp 23) (.lit (.int .i64 1)), none, (some 39), [23]⟩,
  ⟨.mv (.tmp 39), none, (some 23), [39]⟩]
def m37l10 : MCode := (.seq (.region m37r4 [3, 4, 22, 23, 24])
  (.seq (.cond (.tmp 24)
  .skip
  (.exit 0))
  (.seq (.block 1 (.seq (.region m37r5 [3, 4, 5, 22, 23])
  (.seq (.dregion m37r6 m37r7 [] [3, 4, 22, 23, 38])
  (.cond (.tmp 38)
  (.seq (.region m37r8 [2])
  .ret)
  .skip))))
  (.region m37r9 [3, 4, 22, 23]))))
def m37r11 : List MOper := [⟨.mv (.tmp 3), none, (some 40), [3]⟩,
  ⟨.len 1 (.tmp 40), none, (some 41), [40]⟩,
  ⟨.bin .geq .other (.tmp 41) (.lit (.int .i64 8)), none, (some 42), [41]⟩,
  ⟨.mv (.tmp 42), none, (some 43), [42]⟩,
  ⟨.mv (.tmp 3), (some (43, true)), (some 44), [3]⟩,
  ⟨.iaddr 1 (.tmp 44) (.lit (.int .i64 6)), (some (43, true)), (some 45), [44]⟩,
  ⟨.load none (.tmp 45), (some (43, true)), (some 46), [45]⟩,
  ⟨.conv .i64 (.tmp 46), (some (43, true)), (some 47), [46]⟩,
  ⟨.bin .shl .other (.tmp 47) (.lit (.int .u64 8)), (some (43, true)), (some 48), [47]⟩,
  ⟨.mv (.tmp 3), (some (43, true)), (some 49), [3]⟩,
  ⟨.iaddr 1 (.tmp 49) (.lit (.int .i64 7)), (some (43, true)), (some 50), [49]⟩,
  ⟨.load none (.tmp 50), (some (43, true)), (some 51), [50]⟩,
  ⟨.conv .i64 (.tmp 51), (some (43, true)), (some 52), [51]⟩]
def m37r12 : List MOper := [⟨.bin .add .other (.tmp 48) (.tmp 52), (some (43, true)), (some 53), [48, 52]⟩,
  ⟨.bin .gtr .other (.tmp 53) (.lit (.int .i64 4096)), (some (43, true)), (some 54), [53]⟩,
  ⟨.pick (.tmp 43) (.tmp 54) (.lit (.bool false)), none, (some 55), [43, 54]⟩]
def m37r13 : List MOper := [⟨.mv (.lit (.bool true)), none, (some 2), []⟩]
def m37r14 : List MOper := [⟨.mv (.tmp 3), none, (some 56), [3]⟩,
  ⟨.len 1 (.tmp 56), none, (some 57), [56]⟩,
  ⟨.bin .gtr .other (.tmp 57) (.lit (.int .i64 8)), none, (some 58), [57]⟩,
  ⟨.mv (.tmp 58), none, (some 59), [58]⟩,
  ⟨.mv (.tmp 3), (some (59, true)), (some 60), [3]⟩,
  ⟨.iaddr 1 (.tmp 60) (.lit (.int .i64 8)), (some (59, true)), (some 61), [60]⟩,
  ⟨.load none (.tmp 61), (some (59, true)), (some 62), [61]⟩,
  ⟨.mv (.tmp 3), (some (59, true)), (some 63), [3]⟩,
  ⟨.iaddr 1 (.tmp 63) (.lit (.int .i64 6)), (some (59, true)), (some 64), [63]⟩,
  ⟨.load none (.tmp 64), (some (59, true)), (some 65), [64]⟩,
  ⟨.un .xor (.tmp 65), (some (59, true)), (some 66), [65]⟩,
  ⟨.bin .neq .other (.tmp 62) (.tmp 66), (some (59, true)), (some 67), [62, 66]⟩,
  ⟨.pick (.tmp 59) (.tmp 67) (.lit (.bool false)), none, (some 68), [59, 67]⟩,
  ⟨.mv (.tmp 68), none, (some 69), [68]⟩,
  ⟨.mv (.tmp 3), (some (69, false)), (some 70), [3]⟩,
  ⟨.len 1 (.tmp 70), (some (69, false)), (some 71), [70]⟩,
  ⟨.bin .gtr .other (.tmp 71) (.lit (.int .i64 9)), (some (69, false)), (some 72), [71]⟩,
  ⟨.mv (.tmp 72), (some (69, false)), (some 73), [72]⟩,
  ⟨.mv (.tmp 3), (some (73, true)), (some 74), [3]⟩,
  ⟨.iaddr 1 (.tmp 74) (.lit (.int .i64 9)), (some (73, true)), (some 75), [74]⟩,
  ⟨.load none (.tmp 75), (some (73, true)), (some 76), [75]⟩,
  ⟨.mv (.tmp 3), (some (73, true)), (some 77), [3]⟩,
  ⟨.iaddr 1 (.tmp 77) (.lit (.int .i64 7)), (some (73, true)), (some 78), [77]⟩,
  ⟨.load none (.tmp 78), (some (73, true)), (some 79), [78]⟩,
  ⟨.un .xor (.tmp 79), (some (73, true)), (some 80), [79]⟩]
def m37r15 : List MOper := [⟨.bin .neq .other (.tmp 76) (.tmp 80), (some (73, true)), (some 81), [76, 80]⟩,
  ⟨.pick (.tmp 73) (.tmp 81) (.lit (.bool false)), (some (69, false)), (some 82), [73, 81]⟩,
  ⟨.pick (.tmp 69) (.lit (.bool true)) (.tmp 82), none, (some 83), [69, 82]⟩,
  ⟨.mv (.tmp 83), none, (some 2), [83]⟩]
def m37 : MFunc := ⟨84, [.tmp 2],
  (.seq (.region m37r0 [0])
  (.seq (.region m37r1 [0, 3])
  (.seq (.region m37r2 [3, 4])
  (.seq (.seq (.region m37r3 [3, 4, 22, 23])
  (.block 0 (.loop [3, 4, 22, 23] m37l10)))
  (.seq (.seq (.dregion m37r11 m37r12 [] [3, 55])
  (.cond (.tmp 55)
  (.seq (.region m37r13 [2])
  .ret)
  .skip))
  (.seq (.dregion m37r14 m37r15 [] [2])
  .ret))))))⟩
def h37 : List RH := [⟨[0], 0, false, []⟩, ⟨[0, 3], 0, false, []⟩, ⟨[3, 4], 0, false, []⟩, ⟨[3, 4, 22, 23], 0, false, []⟩, ⟨[3, 4, 22, 23], 0, false, []⟩, ⟨[3, 4, 22, 23, 24], 0, false, []⟩, ⟨[3, 4, 5, 22, 23], 0, false, []⟩, ⟨[3, 4, 22, 23, 38], 11, false, []⟩, ⟨[2], 0, false, []⟩, ⟨[3, 4, 22, 23], 0, false, []⟩, ⟨[3, 55], 13, false, []⟩, ⟨[2], 0, false, []⟩, ⟨[2], 25, false, []⟩]
theorem m37_ok : cmpFn Try.prog 37 h37 = some m37 := by kernel_rfl

end Go.Ab.Try.V
