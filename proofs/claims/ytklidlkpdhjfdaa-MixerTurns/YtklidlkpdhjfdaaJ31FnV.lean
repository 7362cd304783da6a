/-
  The translated functions of this claim, printed by a program of ours (gen.sh), with the kernel's word that they are the translation.
  Conditions: none.
-/
import Derived.Test.YtklidlkpdhjfdaaProg
import Derived.Test.YtklidlkpdhjfdaaAbEval
import Derived.KernelRfl
namespace Go.Ab.Try.V
open Go.Proofs
/- dialtone/dialtonelaw31.lives -/
def m8r0 : List MOper := [⟨.mv (.lit (.bool false)), none, (some 0), []⟩]
def m8r1 : List MOper := [⟨.mkslice [(.int .i16 0)] 1 [(0, (.lit (.int .i16 30000)))], none, (some 8), []⟩,
  ⟨.mkslice [(.int .i16 0)] 1 [(0, (.lit (.int .i16 30000)))], none, (some 9), []⟩,
  ⟨.mkslice [(.int .i16 0)] 1 [(0, (.lit (.int .i16 (-5))))], none, (some 10), []⟩,
  ⟨.mkslice [.nils] 3 [(0, (.tmp 8)), (1, (.tmp 9)), (2, (.tmp 10))], none, (some 11), [8, 9, 10]⟩,
  ⟨.call 13 [(.tmp 11), (.lit (.int .i64 1))], none, (some 12), [11]⟩,
  ⟨.mv (.tmp 12), none, (some 7), [12]⟩,
  ⟨.ext 0 (.tmp 7), none, (some 13), [7]⟩,
  ⟨.ext 1 (.tmp 7), none, (some 14), [7]⟩,
  ⟨.mv (.tmp 13), none, (some 1), [13]⟩,
  ⟨.mv (.tmp 14), none, (some 2), [14]⟩]
def m8r2 : List MOper := [⟨.mkslice [(.int .i16 0)] 1 [(0, (.lit (.int .i16 100)))], none, (some 16), []⟩,
  ⟨.mkslice [(.int .i16 0)] 1 [(0, (.lit (.int .i16 10)))], none, (some 17), []⟩,
  ⟨.mkslice [(.int .i16 0)] 1 [(0, (.lit (.int .i16 1)))], none, (some 18), []⟩,
  ⟨.mkslice [.nils] 3 [(0, (.tmp 16)), (1, (.tmp 17)), (2, (.tmp 18))], none, (some 19), [16, 17, 18]⟩,
  ⟨.call 14 [(.tmp 19), (.lit (.int .i64 1)), (.lit (.int .i64 1))], none, (some 20), [19]⟩,
  ⟨.mv (.tmp 20), none, (some 15), [20]⟩,
  ⟨.ext 0 (.tmp 15), none, (some 21), [15]⟩,
  ⟨.ext 1 (.tmp 15), none, (some 22), [15]⟩,
  ⟨.mv (.tmp 21), none, (some 3), [21]⟩,
  ⟨.mv (.tmp 22), none, (some 4), [22]⟩]
def m8r3 : List MOper := [⟨.mkslice [(.int .i16 0)] 1 [(0, (.lit (.int .i16 1)))], none, (some 24), []⟩,
  ⟨.call 9 [(.tmp 24), (.lit (.int .i64 1025))], none, (some 25), [24]⟩,
  ⟨.mv (.tmp 25), none, (some 23), [25]⟩,
  ⟨.ext 0 (.tmp 23), none, (some 26), [23]⟩,
  ⟨.ext 1 (.tmp 23), none, (some 27), [23]⟩,
  ⟨.mv (.tmp 26), none, (some 5), [26]⟩,
  ⟨.mv (.tmp 27), none, (some 6), [27]⟩]
def m8r4 : List MOper := [⟨.mv (.tmp 2), none, (some 28), [2]⟩,
  ⟨.bin .eql .other (.tmp 28) (.lit (.int .u8 0)), none, (some 29), [28]⟩,
  ⟨.mv (.tmp 29), none, (some 30), [29]⟩,
  ⟨.mv (.tmp 1), (some (30, true)), (some 31), [1]⟩,
  ⟨.mkslice [(.int .i16 0)] 1 [(0, (.lit (.int .i16 29995)))], (some (30, true)), (some 32), []⟩,
  ⟨.mkslice [(.int .i16 0)] 1 [(0, (.lit (.int .i16 29995)))], (some (30, true)), (some 33), []⟩,
  ⟨.mkslice [(.int .i16 0)] 1 [(0, (.lit (.int .i16 32767)))], (some (30, true)), (some 34), []⟩,
  ⟨.mkfrz [.nils] 3 [(0, (.tmp 32)), (1, (.tmp 33)), (2, (.tmp 34))], (some (30, true)), (some 35), [32, 33, 34]⟩,
  ⟨.call 11 [(.tmp 31), (.tmp 35)], (some (30, true)), (some 36), [31, 35]⟩,
  ⟨.pick (.tmp 30) (.tmp 36) (.lit (.bool false)), none, (some 37), [30, 36]⟩,
  ⟨.mv (.tmp 37), none, (some 38), [37]⟩,
  ⟨.mv (.tmp 4), (some (38, true)), (some 39), [4]⟩,
  ⟨.bin .eql .other (.tmp 39) (.lit (.int .u8 0)), (some (38, true)), (some 40), [39]⟩,
  ⟨.pick (.tmp 38) (.tmp 40) (.lit (.bool false)), none, (some 41), [38, 40]⟩,
  ⟨.mv (.tmp 41), none, (some 42), [41]⟩,
  ⟨.mv (.tmp 3), (some (42, true)), (some 43), [3]⟩,
  ⟨.mkslice [(.int .i16 0)] 1 [(0, (.lit (.int .i16 10)))], (some (42, true)), (some 44), []⟩,
  ⟨.mkslice [(.int .i16 0)] 1 [(0, (.lit (.int .i16 100)))], (some (42, true)), (some 45), []⟩,
  ⟨.mkslice [(.int .i16 0)] 1 [(0, (.lit (.int .i16 100)))], (some (42, true)), (some 46), []⟩,
  ⟨.mkfrz [.nils] 3 [(0, (.tmp 44)), (1, (.tmp 45)), (2, (.tmp 46))], (some (42, true)), (some 47), [44, 45, 46]⟩,
  ⟨.call 11 [(.tmp 43), (.tmp 47)], (some (42, true)), (some 48), [43, 47]⟩,
  ⟨.pick (.tmp 42) (.tmp 48) (.lit (.bool false)), none, (some 49), [42, 48]⟩,
  ⟨.mv (.tmp 49), none, (some 50), [49]⟩,
  ⟨.mv (.tmp 6), (some (50, true)), (some 51), [6]⟩,
  ⟨.bin .eql .other (.tmp 51) (.lit (.int .u8 3)), (some (50, true)), (some 52), [51]⟩,
  ⟨.pick (.tmp 50) (.tmp 52) (.lit (.bool false)), none, (some 53), [50, 52]⟩,
  ⟨.mv (.tmp 53), none, (some 0), [53]⟩]
def m8 : MFunc := ⟨54, [.tmp 0],
  (.seq (.region m8r0 [])
  (.seq (.region m8r1 [1, 2])
  (.seq (.region m8r2 [1, 2, 3, 4])
  (.seq (.region m8r3 [1, 2, 3, 4, 6])
  (.seq (.region m8r4 [0])
  .ret)))))⟩
def h8 : List RH := [⟨[], 0, false, []⟩, ⟨[1, 2], 0, false, []⟩, ⟨[1, 2, 3, 4], 0, false, []⟩, ⟨[1, 2, 3, 4, 6], 0, false, []⟩, ⟨[0], 0, false, []⟩]
theorem m8_ok : cmpFn Try.prog 8 h8 = some m8 := by kernel_rfl

/- dialtone/mixer.Gain -/
def m9r0 : List MOper := [⟨.mv (.lit .nils), none, (some 4), []⟩,
  ⟨.mv (.lit (.int .u8 0)), none, (some 5), []⟩]
def m9r1 : List MOper := [⟨.mv (.tmp 1), none, (some 10), [1]⟩,
  ⟨.bin .lss .other (.tmp 10) (.lit (.int .i64 0)), none, (some 11), [10]⟩,
  ⟨.mv (.tmp 11), none, (some 12), [11]⟩,
  ⟨.mv (.tmp 1), (some (12, false)), (some 13), [1]⟩,
  ⟨.bin .gtr .other (.tmp 13) (.lit (.int .i64 1024)), (some (12, false)), (some 14), [13]⟩,
  ⟨.pick (.tmp 12) (.lit (.bool true)) (.tmp 14), none, (some 15), [12, 14]⟩]
def m9r2 : List MOper := [⟨.mv (.lit .nils), none, (some 4), []⟩,
  ⟨.mv (.lit (.int .u8 3)), none, (some 5), []⟩]
def m9r3 : List MOper := [⟨.mv (.tmp 0), none, (some 16), [0]⟩,
  ⟨.len 1 (.tmp 16), none, (some 17), [16]⟩,
  ⟨.make [(.int .i16 0)] 2 (.tmp 17) (.tmp 17), none, (some 18), [17, 17]⟩,
  ⟨.mv (.tmp 18), none, (some 6), [18]⟩]
def m9r4 : List MOper := [⟨.mv (.tmp 0), none, (some 19), [0]⟩,
  ⟨.len 1 (.tmp 19), none, (some 20), [19]⟩,
  ⟨.mv (.lit (.int .i64 0)), none, (some 21), []⟩]
def m9r5 : List MOper := [⟨.bin .lss .other (.tmp 21) (.tmp 20), none, (some 22), [21, 20]⟩]
def m9r6 : List MOper := [⟨.mv (.tmp 21), none, (some 23), [21]⟩,
  ⟨.iaddr 1 (.tmp 19) (.tmp 21), none, (some 24), [19, 21]⟩,
  ⟨.load none (.tmp 24), none, (some 25), [24]⟩,
  ⟨.mv (.tmp 23), none, (some 7), [23]⟩,
  ⟨.mv (.tmp 25), none, (some 8), [25]⟩]
def m9r7 : List MOper := [⟨.mv (.tmp 8), none, (some 26), [8]⟩,
  ⟨.conv .i64 (.tmp 26), none, (some 27), [26]⟩,
  ⟨.mv (.tmp 1), none, (some 28), [1]⟩,
  ⟨.bin .mul .other (.tmp 27) (.tmp 28), none, (some 29), [27, 28]⟩,
  ⟨.mv (.tmp 29), none, (some 9), [29]⟩]
def m9r8 : List MOper := [⟨.mv (.tmp 9), none, (some 30), [9]⟩,
  ⟨.bin .lss .other (.tmp 30) (.lit (.int .i64 0)), none, (some 31), [30]⟩]
def m9r9 : List MOper := [⟨.mv (.tmp 6), none, (some 32), [6]⟩,
  ⟨.mv (.tmp 7), none, (some 33), [7]⟩,
  ⟨.mv (.tmp 9), none, (some 34), [9]⟩,
  ⟨.bin .sub .other (.lit (.int .i64 128)) (.tmp 34), none, (some 35), [34]⟩,
  ⟨.bin .shr .other (.tmp 35) (.lit (.int .u64 8)), none, (some 36), [35]⟩,
  ⟨.un .neg (.tmp 36), none, (some 37), [36]⟩,
  ⟨.call 22 [(.tmp 37)], none, (some 38), [37]⟩,
  ⟨.iaddr 1 (.tmp 32) (.tmp 33), none, (some 39), [32, 33]⟩,
  ⟨.store 1 (.tmp 39) (.tmp 38), none, none, [39, 38]⟩]
def m9r10 : List MOper := [⟨.mv (.tmp 6), none, (some 40), [6]⟩,
  ⟨.mv (.tmp 7), none, (some 41), [7]⟩,
  ⟨.mv (.tmp 9), none, (some 42), [9]⟩,
  ⟨.bin .add .other (.tmp 42) (.lit (.int .i64 128)), none, (some 43), [42]⟩,
  ⟨.bin .shr .other (.tmp 43) (.lit (.int .u64 8)), none, (some 44), [43]⟩,
  ⟨.call 22 [(.tmp 44)], none, (some 45), [44]⟩,
  ⟨.iaddr 1 (.tmp 40) (.tmp 41), none, (some 46), [40, 41]⟩,
  ⟨.store 1 (.tmp 46) (.tmp 45), none, none, [46, 45]⟩]
def m9r11 : List MOper := [⟨.bin .add .other (.tmp 21) (.lit (.int .i64 1)), none, (some 47), [21]⟩,
  ⟨.mv (.tmp 47), none, (some 21), [47]⟩]
def m9l12 : MCode := (.seq (.region m9r5 [1, 6, 19, 20, 21, 22])
  (.seq (.cond (.tmp 22)
  .skip
  (.exit 0))
  (.seq (.block 1 (.seq (.region m9r6 [1, 6, 7, 8, 19, 20, 21])
  (.seq (.region m9r7 [1, 6, 7, 9, 19, 20, 21])
  (.seq (.region m9r8 [1, 6, 7, 9, 19, 20, 21, 31])
  (.cond (.tmp 31)
  (.region m9r9 [1, 6, 19, 20, 21])
  (.region m9r10 [1, 6, 19, 20, 21]))))))
  (.region m9r11 [1, 6, 19, 20, 21]))))
def m9r13 : List MOper := [⟨.mv (.tmp 6), none, (some 48), [6]⟩,
  ⟨.mv (.tmp 48), none, (some 4), [48]⟩,
  ⟨.mv (.lit (.int .u8 0)), none, (some 5), []⟩]
def m9 : MFunc := ⟨49, [.tmp 4, .tmp 5],
  (.seq (.region m9r0 [0, 1])
  (.seq (.seq (.region m9r1 [0, 1, 15])
  (.cond (.tmp 15)
  (.seq (.region m9r2 [4, 5])
  .ret)
  .skip))
  (.seq (.region m9r3 [0, 1, 6])
  (.seq (.seq (.region m9r4 [1, 6, 19, 20, 21])
  (.block 0 (.loop [1, 6, 19, 20, 21] m9l12)))
  (.seq (.region m9r13 [4, 5])
  .ret)))))⟩
def h9 : List RH := [⟨[0, 1], 0, false, []⟩, ⟨[0, 1, 15], 0, false, []⟩, ⟨[4, 5], 0, false, []⟩, ⟨[0, 1, 6], 0, false, []⟩, ⟨[1, 6, 19, 20, 21], 0, false, []⟩, ⟨[1, 6, 19, 20, 21], 0, false, []⟩, ⟨[1, 6, 19, 20, 21, 22], 0, false, []⟩, ⟨[1, 6, 7, 8, 19, 20, 21], 0, false, []⟩, ⟨[1, 6, 7, 9, 19, 20, 21], 0, false, []⟩, ⟨[1, 6, 7, 9, 19, 20, 21, 31], 0, false, []⟩, ⟨[1, 6, 19, 20, 21], 0, false, []⟩, ⟨[1, 6, 19, 20, 21], 0, false, []⟩, ⟨[1, 6, 19, 20, 21], 0, false, []⟩, ⟨[4, 5], 0, false, []⟩]
theorem m9_ok : cmpFn Try.prog 9 h9 = some m9 := by kernel_rfl

/- dialtone/dialtoneref31.Same -/
def m11r0 : List MOper := [⟨.mv (.lit (.bool false)), none, (some 4), []⟩]
def m11r1 : List MOper := [⟨.mv (.tmp 0), none, (some 7), [0]⟩,
  ⟨.len 1 (.tmp 7), none, (some 8), [7]⟩,
  ⟨.mv (.tmp 1), none, (some 9), [1]⟩,
  ⟨.len 1 (.tmp 9), none, (some 10), [9]⟩,
  ⟨.bin .neq .other (.tmp 8) (.tmp 10), none, (some 11), [8, 10]⟩]
def m11r2 : List MOper := [⟨.mv (.lit (.bool false)), none, (some 4), []⟩]
def m11r3 : List MOper := [⟨.mv (.lit (.int .i64 0)), none, (some 5), []⟩]
def m11r4 : List MOper := [⟨.mv (.tmp 5), none, (some 12), [5]⟩,
  ⟨.mv (.tmp 0), none, (some 13), [0]⟩,
  ⟨.len 1 (.tmp 13), none, (some 14), [13]⟩,
  ⟨.bin .lss .other (.tmp 12) (.tmp 14), none, (some 15), [12, 14]⟩]
def m11r5 : List MOper := [⟨.mv (.tmp 0), none, (some 18), [0]⟩,
  ⟨.mv (.tmp 5), none, (some 19), [5]⟩,
  ⟨.iaddr 1 (.tmp 18) (.tmp 19), none, (some 20), [18, 19]⟩,
  ⟨.load none (.tmp 20), none, (some 21), [20]⟩,
  ⟨.len 1 (.tmp 21), none, (some 22), [21]⟩,
  ⟨.mv (.tmp 1), none, (some 23), [1]⟩,
  ⟨.mv (.tmp 5), none, (some 24), [5]⟩,
  ⟨.iaddr 1 (.tmp 23) (.tmp 24), none, (some 25), [23, 24]⟩,
  ⟨.load none (.tmp 25), none, (some 26), [25]⟩,
  ⟨.len 1 (.tmp 26), none, (some 27), [26]⟩]
def m11r6 : List MOper := [⟨.bin .neq .other (.tmp 22) (.tmp 27), none, (some 28), [22, 27]⟩]
def m11r7 : List MOper := [⟨.mv (.lit (.bool false)), none, (some 4), []⟩]
def m11r8 : List MOper := [⟨.mv (.lit (.int .i64 0)), none, (some 6), []⟩]
def m11r9 : List MOper := [⟨.mv (.tmp 6), none, (some 29), [6]⟩,
  ⟨.mv (.tmp 0), none, (some 30), [0]⟩,
  ⟨.mv (.tmp 5), none, (some 31), [5]⟩,
  ⟨.iaddr 1 (.tmp 30) (.tmp 31), none, (some 32), [30, 31]⟩,
  ⟨.load none (.tmp 32), none, (some 33), [32]⟩,
  ⟨.len 1 (.tmp 33), none, (some 34), [33]⟩,
  ⟨.bin .lss .other (.tmp 29) (.tmp 34), none, (some 35), [29, 34]⟩]
def m11r10 : List MOper := [⟨.mv (.tmp 0), none, (some 38), [0]⟩,
  ⟨.mv (.tmp 5), none, (some 39), [5]⟩,
  ⟨.iaddr 1 (.tmp 38) (.tmp 39), none, (some 40), [38, 39]⟩,
  ⟨.load none (.tmp 40), none, (some 41), [40]⟩,
  ⟨.mv (.tmp 6), none, (some 42), [6]⟩,
  ⟨.iaddr 1 (.tmp 41) (.tmp 42), none, (some 43), [41, 42]⟩,
  ⟨.load none (.tmp 43), none, (some 44), [43]⟩,
  ⟨.mv (.tmp 1), none, (some 45), [1]⟩,
  ⟨.mv (.tmp 5), none, (some 46), [5]⟩,
  ⟨.iaddr 1 (.tmp 45) (.tmp 46), none, (some 47), [45, 46]⟩,
  ⟨.load none (.tmp 47), none, (some 48), [47]⟩,
  ⟨.mv (.tmp 6), none, (some 49), [6]⟩,
  ⟨.iaddr 1 (.tmp 48) (.tmp 49), none, (some 50), [48, 49]⟩,
  ⟨.load none (.tmp 50), none, (some 51), [50]⟩]
def m11r11 : List MOper := [⟨.bin .neq .other (.tmp 44) (.tmp 51), none, (some 52), [44, 51]⟩]
def m11r12 : List MOper := [⟨.mv (.lit (.bool false)), none, (some 4), []⟩]
def m11r13 : List MOper := [⟨.mv (.tmp 6), none, (some 36), [6]⟩,
  ⟨.bin .add .other (.tmp 36) (.lit (.int .i64 1)), none, (some 37), [36]⟩,
  ⟨.mv (.tmp 37), none, (some 6), [37]⟩]
def m11l14 : MCode := (.seq (.seq (.region m11r9 [0, 1, 5, 6, 35])
  (.cond (.tmp 35)
  .skip
  (.exit 2)))
  (.seq (.block 3 (.seq (.dregion m11r10 m11r11 [] [0, 1, 5, 6, 52])
  (.cond (.tmp 52)
  (.seq (.region m11r12 [4])
  .ret)
  .skip)))
  (.region m11r13 [0, 1, 5, 6])))
def m11r15 : List MOper := [⟨.mv (.tmp 5), none, (some 16), [5]⟩,
  ⟨.bin .add .other (.tmp 16) (.lit (.int .i64 1)), none, (some 17), [16]⟩,
  ⟨.mv (.tmp 17), none, (some 5), [17]⟩]
def m11l16 : MCode := (.seq (.seq (.region m11r4 [0, 1, 5, 15])
  (.cond (.tmp 15)
  .skip
  (.exit 0)))
  (.seq (.block 1 (.seq (.seq (.dregion m11r5 m11r6 [] [0, 1, 5, 28])
  (.cond (.tmp 28)
  (.seq (.region m11r7 [4])
  .ret)
  .skip))
  (.seq (.region m11r8 [0, 1, 5, 6])
  (.block 2 (.loop [0, 1, 5, 6] m11l14)))))
  (.region m11r15 [0, 1, 5])))
def m11r17 : List MOper := [⟨.mv (.lit (.bool true)), none, (some 4), []⟩]
def m11 : MFunc := ⟨53, [.tmp 4],
  (.seq (.region m11r0 [0, 1])
  (.seq (.seq (.region m11r1 [0, 1, 11])
  (.cond (.tmp 11)
  (.seq (.region m11r2 [4])
  .ret)
  .skip))
  (.seq (.seq (.region m11r3 [0, 1, 5])
  (.block 0 (.loop [0, 1, 5] m11l16)))
  (.seq (.region m11r17 [4])
  .ret))))⟩
def h11 : List RH := [⟨[0, 1], 0, false, []⟩, ⟨[0, 1, 11], 0, false, []⟩, ⟨[4], 0, false, []⟩, ⟨[0, 1, 5], 0, false, []⟩, ⟨[0, 1, 5], 0, false, []⟩, ⟨[0, 1, 5, 15], 0, false, []⟩, ⟨[0, 1, 5, 28], 10, false, []⟩, ⟨[4], 0, false, []⟩, ⟨[0, 1, 5, 6], 0, false, []⟩, ⟨[0, 1, 5, 6], 0, false, []⟩, ⟨[0, 1, 5, 6, 35], 0, false, []⟩, ⟨[0, 1, 5, 6, 52], 14, false, []⟩, ⟨[4], 0, false, []⟩, ⟨[0, 1, 5, 6], 0, false, []⟩, ⟨[0, 1, 5], 0, false, []⟩, ⟨[4], 0, false, []⟩]
theorem m11_ok : cmpFn Try.prog 11 h11 = some m11 := by kernel_rfl

/- dialtone/mixer.Mix -/
def m13r0 : List MOper := [⟨.mv (.lit .nils), none, (some 4), []⟩,
  ⟨.mv (.lit (.int .u8 0)), none, (some 5), []⟩]
def m13r1 : List MOper := [⟨.mv (.tmp 0), none, (some 13), [0]⟩,
  ⟨.mv (.tmp 1), none, (some 14), [1]⟩,
  ⟨.call 24 [(.tmp 13), (.tmp 14)], none, (some 15), [13, 14]⟩,
  ⟨.mv (.tmp 15), none, (some 6), [15]⟩]
def m13r2 : List MOper := [⟨.mv (.tmp 6), none, (some 16), [6]⟩,
  ⟨.bin .neq .other (.tmp 16) (.lit (.int .u8 0)), none, (some 17), [16]⟩]
def m13r3 : List MOper := [⟨.mv (.tmp 6), none, (some 18), [6]⟩,
  ⟨.mv (.lit .nils), none, (some 4), []⟩,
  ⟨.mv (.tmp 18), none, (some 5), [18]⟩]
def m13r4 : List MOper := [⟨.mv (.tmp 0), none, (some 19), [0]⟩,
  ⟨.mv (.tmp 1), none, (some 20), [1]⟩,
  ⟨.call 25 [(.tmp 19), (.tmp 20)], none, (some 21), [19, 20]⟩,
  ⟨.mv (.tmp 21), none, (some 7), [21]⟩]
def m13r5 : List MOper := [⟨.mv (.tmp 0), none, (some 22), [0]⟩,
  ⟨.len 1 (.tmp 22), none, (some 23), [22]⟩,
  ⟨.make [.nils] 24 (.tmp 23) (.tmp 23), none, (some 24), [23, 23]⟩,
  ⟨.mv (.tmp 24), none, (some 8), [24]⟩]
def m13r6 : List MOper := [⟨.mv (.tmp 0), none, (some 25), [0]⟩,
  ⟨.len 1 (.tmp 25), none, (some 26), [25]⟩,
  ⟨.mv (.lit (.int .i64 0)), none, (some 27), []⟩]
def m13r7 : List MOper := [⟨.bin .lss .other (.tmp 27) (.tmp 26), none, (some 28), [27, 26]⟩]
def m13r8 : List MOper := [⟨.mv (.tmp 27), none, (some 29), [27]⟩,
  ⟨.iaddr 1 (.tmp 25) (.tmp 27), none, (some 30), [25, 27]⟩,
  ⟨.load none (.tmp 30), none, (some 31), [30]⟩,
  ⟨.mv (.tmp 29), none, (some 9), [29]⟩,
  ⟨.mv (.tmp 31), none, (some 10), [31]⟩]
def m13r9 : List MOper := [⟨.mv (.tmp 1), none, (some 32), [1]⟩,
  ⟨.make [(.int .i64 0)] 8 (.tmp 32) (.tmp 32), none, (some 33), [32, 32]⟩,
  ⟨.mv (.tmp 33), none, (some 11), [33]⟩]
def m13r10 : List MOper := [⟨.mv (.tmp 11), none, (some 34), [11]⟩,
  ⟨.mv (.tmp 7), none, (some 35), [7]⟩,
  ⟨.copy 1 (.tmp 34) (.tmp 35), none, (some 36), [34, 35]⟩]
def m13r11 : List MOper := [⟨.mv (.tmp 1), none, (some 37), [1]⟩,
  ⟨.mv (.tmp 10), none, (some 38), [10]⟩,
  ⟨.len 1 (.tmp 38), none, (some 39), [38]⟩,
  ⟨.minmax false (.tmp 37) [(.tmp 39)], none, (some 40), [37, 39]⟩,
  ⟨.mv (.lit (.int .i64 0)), none, (some 41), []⟩]
def m13r12 : List MOper := [⟨.bin .lss .other (.tmp 41) (.tmp 40), none, (some 42), [41, 40]⟩]
def m13r13 : List MOper := [⟨.mv (.tmp 41), none, (some 43), [41]⟩,
  ⟨.mv (.tmp 43), none, (some 12), [43]⟩]
def m13r14 : List MOper := [⟨.mv (.tmp 11), none, (some 44), [11]⟩,
  ⟨.mv (.tmp 12), none, (some 45), [12]⟩,
  ⟨.iaddr 1 (.tmp 44) (.tmp 45), none, (some 46), [44, 45]⟩,
  ⟨.load none (.tmp 46), none, (some 47), [46]⟩,
  ⟨.mv (.tmp 10), none, (some 48), [10]⟩,
  ⟨.mv (.tmp 12), none, (some 49), [12]⟩,
  ⟨.iaddr 1 (.tmp 48) (.tmp 49), none, (some 50), [48, 49]⟩,
  ⟨.load none (.tmp 50), none, (some 51), [50]⟩,
  ⟨.conv .i64 (.tmp 51), none, (some 52), [51]⟩]
def m13r15 : List MOper := [⟨.bin .sub .other (.tmp 47) (.tmp 52), none, (some 53), [47, 52]⟩,
  ⟨.iaddr 1 (.tmp 44) (.tmp 45), none, (some 54), [44, 45]⟩,
  ⟨.store 1 (.tmp 54) (.tmp 53), none, none, [54, 53]⟩]
def m13r16 : List MOper := [⟨.bin .add .other (.tmp 41) (.lit (.int .i64 1)), none, (some 55), [41]⟩,
  ⟨.mv (.tmp 55), none, (some 41), [55]⟩]
def m13l17 : MCode := (.seq (.region m13r12 [1, 7, 8, 9, 10, 11, 25, 26, 27, 40, 41, 42])
  (.seq (.cond (.tmp 42)
  .skip
  (.exit 2))
  (.seq (.block 3 (.seq (.region m13r13 [1, 7, 8, 9, 10, 11, 12, 25, 26, 27, 40, 41])
  (.dregion m13r14 m13r15 [] [1, 7, 8, 9, 10, 11, 25, 26, 27, 40, 41])))
  (.region m13r16 [1, 7, 8, 9, 10, 11, 25, 26, 27, 40, 41]))))
def m13r18 : List MOper := [⟨.mv (.tmp 8), none, (some 56), [8]⟩,
  ⟨.mv (.tmp 9), none, (some 57), [9]⟩,
  ⟨.mv (.tmp 11), none, (some 58), [11]⟩,
  ⟨.call 26 [(.tmp 58)], none, (some 59), [58]⟩,
  ⟨.iaddr 1 (.tmp 56) (.tmp 57), none, (some 60), [56, 57]⟩,
  ⟨.store 1 (.tmp 60) (.tmp 59), none, none, [60, 59]⟩]
def m13r19 : List MOper := [⟨.bin .add .other (.tmp 27) (.lit (.int .i64 1)), none, (some 61), [27]⟩,
  ⟨.mv (.tmp 61), none, (some 27), [61]⟩]
def m13l20 : MCode := (.seq (.region m13r7 [1, 7, 8, 25, 26, 27, 28])
  (.seq (.cond (.tmp 28)
  .skip
  (.exit 0))
  (.seq (.block 1 (.seq (.region m13r8 [1, 7, 8, 9, 10, 25, 26, 27])
  (.seq (.region m13r9 [1, 7, 8, 9, 10, 11, 25, 26, 27])
  (.seq (.region m13r10 [1, 7, 8, 9, 10, 11, 25, 26, 27])
  (.seq (.seq (.region m13r11 [1, 7, 8, 9, 10, 11, 25, 26, 27, 40, 41])
  (.block 2 (.loop [1, 7, 8, 9, 10, 11, 25, 26, 27, 40, 41] m13l17)))
  (.region m13r18 [1, 7, 8, 25, 26, 27]))))))
  (.region m13r19 [1, 7, 8, 25, 26, 27]))))
def m13r21 : List MOper := [⟨.mv (.tmp 8), none, (some 62), [8]⟩,
  ⟨.mv (.tmp 62), none, (some 4), [62]⟩,
  ⟨.mv (.lit (.int .u8 0)), none, (some 5), []⟩]
def m13 : MFunc := ⟨63, [.tmp 4, .tmp 5],
  (.seq (.region m13r0 [0, 1])
  (.seq (.seq (.region m13r1 [0, 1, 6])
  (.seq (.region m13r2 [0, 1, 6, 17])
  (.cond (.tmp 17)
  (.seq (.region m13r3 [4, 5])
  .ret)
  .skip)))
  (.seq (.region m13r4 [0, 1, 7])
  (.seq (.region m13r5 [0, 1, 7, 8])
  (.seq (.seq (.region m13r6 [1, 7, 8, 25, 26, 27])
  (.block 0 (.loop [1, 7, 8, 25, 26, 27] m13l20)))
  (.seq (.region m13r21 [4, 5])
  .ret))))))⟩
def h13 : List RH := [⟨[0, 1], 0, false, []⟩, ⟨[0, 1, 6], 0, false, []⟩, ⟨[0, 1, 6, 17], 0, false, []⟩, ⟨[4, 5], 0, false, []⟩, ⟨[0, 1, 7], 0, false, []⟩, ⟨[0, 1, 7, 8], 0, false, []⟩, ⟨[1, 7, 8, 25, 26, 27], 0, false, []⟩, ⟨[1, 7, 8, 25, 26, 27], 0, false, []⟩, ⟨[1, 7, 8, 25, 26, 27, 28], 0, false, []⟩, ⟨[1, 7, 8, 9, 10, 25, 26, 27], 0, false, []⟩, ⟨[1, 7, 8, 9, 10, 11, 25, 26, 27], 0, false, []⟩, ⟨[1, 7, 8, 9, 10, 11, 25, 26, 27], 0, false, []⟩, ⟨[1, 7, 8, 9, 10, 11, 25, 26, 27, 40, 41], 0, false, []⟩, ⟨[1, 7, 8, 9, 10, 11, 25, 26, 27, 40, 41], 0, false, []⟩, ⟨[1, 7, 8, 9, 10, 11, 25, 26, 27, 40, 41, 42], 0, false, []⟩, ⟨[1, 7, 8, 9, 10, 11, 12, 25, 26, 27, 40, 41], 0, false, []⟩, ⟨[1, 7, 8, 9, 10, 11, 25, 26, 27, 40, 41], 9, false, []⟩, ⟨[1, 7, 8, 9, 10, 11, 25, 26, 27, 40, 41], 0, false, []⟩, ⟨[1, 7, 8, 25, 26, 27], 0, false, []⟩, ⟨[1, 7, 8, 25, 26, 27], 0, false, []⟩, ⟨[4, 5], 0, false, []⟩]
theorem m13_ok : cmpFn Try.prog 13 h13 = some m13 := by kernel_rfl

/- dialtone/mixer.MixLoudest -/
def m14r0 : List MOper := [⟨.mv (.lit .nils), none, (some 6), []⟩,
  ⟨.mv (.lit (.int .u8 0)), none, (some 7), []⟩]
def m14r1 : List MOper := [⟨.mv (.tmp 0), none, (some 15), [0]⟩,
  ⟨.mv (.tmp 1), none, (some 16), [1]⟩,
  ⟨.call 24 [(.tmp 15), (.tmp 16)], none, (some 17), [15, 16]⟩,
  ⟨.mv (.tmp 17), none, (some 8), [17]⟩]
def m14r2 : List MOper := [⟨.mv (.tmp 8), none, (some 18), [8]⟩,
  ⟨.bin .neq .other (.tmp 18) (.lit (.int .u8 0)), none, (some 19), [18]⟩]
def m14r3 : List MOper := [⟨.mv (.tmp 8), none, (some 20), [8]⟩,
  ⟨.mv (.lit .nils), none, (some 6), []⟩,
  ⟨.mv (.tmp 20), none, (some 7), [20]⟩]
def m14r4 : List MOper := [⟨.mv (.tmp 0), none, (some 21), [0]⟩,
  ⟨.call 27 [(.tmp 21)], none, (some 22), [21]⟩,
  ⟨.mv (.tmp 22), none, (some 9), [22]⟩]
def m14r5 : List MOper := [⟨.mv (.tmp 0), none, (some 23), [0]⟩,
  ⟨.len 1 (.tmp 23), none, (some 24), [23]⟩,
  ⟨.make [.nils] 24 (.tmp 24) (.tmp 24), none, (some 25), [24, 24]⟩,
  ⟨.mv (.tmp 25), none, (some 10), [25]⟩]
def m14r6 : List MOper := [⟨.mv (.tmp 0), none, (some 26), [0]⟩,
  ⟨.len 1 (.tmp 26), none, (some 27), [26]⟩,
  ⟨.mv (.lit (.int .i64 0)), none, (some 28), []⟩]
def m14r7 : List MOper := [⟨.bin .lss .other (.tmp 28) (.tmp 27), none, (some 29), [28, 27]⟩]
def m14r8 : List MOper := [⟨.mv (.tmp 28), none, (some 30), [28]⟩,
  ⟨.mv (.tmp 30), none, (some 11), [30]⟩]
def m14r9 : List MOper := [⟨.mv (.lit .nils), none, (some 12), []⟩]
def m14r10 : List MOper := [⟨.mv (.tmp 9), none, (some 31), [9]⟩,
  ⟨.len 1 (.tmp 31), none, (some 32), [31]⟩,
  ⟨.mv (.lit (.int .i64 0)), none, (some 33), []⟩]
def m14r11 : List MOper := [⟨.bin .lss .other (.tmp 33) (.tmp 32), none, (some 34), [33, 32]⟩]
def m14r12 : List MOper := [⟨.iaddr 1 (.tmp 31) (.tmp 33), none, (some 35), [31, 33]⟩,
  ⟨.load none (.tmp 35), none, (some 36), [35]⟩,
  ⟨.mv (.tmp 36), none, (some 14), [36]⟩]
def m14r13 : List MOper := [⟨.mv (.tmp 14), none, (some 37), [14]⟩,
  ⟨.mv (.tmp 11), none, (some 38), [11]⟩,
  ⟨.bin .neq .other (.tmp 37) (.tmp 38), none, (some 39), [37, 38]⟩,
  ⟨.mv (.tmp 39), none, (some 40), [39]⟩,
  ⟨.mv (.tmp 12), (some (40, true)), (some 41), [12]⟩,
  ⟨.len 1 (.tmp 41), (some (40, true)), (some 42), [41]⟩,
  ⟨.mv (.tmp 2), (some (40, true)), (some 43), [2]⟩,
  ⟨.bin .lss .other (.tmp 42) (.tmp 43), (some (40, true)), (some 44), [42, 43]⟩,
  ⟨.pick (.tmp 40) (.tmp 44) (.lit (.bool false)), none, (some 45), [40, 44]⟩]
def m14r14 : List MOper := [⟨.mv (.tmp 12), none, (some 46), [12]⟩,
  ⟨.mv (.tmp 0), none, (some 47), [0]⟩,
  ⟨.mv (.tmp 14), none, (some 48), [14]⟩,
  ⟨.iaddr 1 (.tmp 47) (.tmp 48), none, (some 49), [47, 48]⟩,
  ⟨.load none (.tmp 49), none, (some 50), [49]⟩,
  ⟨.mkfrz [.nils] 1 [(0, (.tmp 50))], none, (some 51), [50]⟩,
  ⟨.append 1 24 (.tmp 46) (.tmp 51), none, (some 52), [46, 51]⟩,
  ⟨.mv (.tmp 52), none, (some 12), [52]⟩]
def m14r15 : List MOper := [⟨.bin .add .other (.tmp 33) (.lit (.int .i64 1)), none, (some 53), [33]⟩,
  ⟨.mv (.tmp 53), none, (some 33), [53]⟩]
def m14l16 : MCode := (.seq (.region m14r11 [0, 1, 2, 9, 10, 11, 12, 27, 28, 31, 32, 33, 34])
  (.seq (.cond (.tmp 34)
  .skip
  (.exit 2))
  (.seq (.block 3 (.seq (.region m14r12 [0, 1, 2, 9, 10, 11, 12, 14, 27, 28, 31, 32, 33])
  (.seq (.region m14r13 [0, 1, 2, 9, 10, 11, 12, 14, 27, 28, 31, 32, 33, 45])
  (.cond (.tmp 45)
  (.region m14r14 [0, 1, 2, 9, 10, 11, 12, 27, 28, 31, 32, 33])
  .skip))))
  (.region m14r15 [0, 1, 2, 9, 10, 11, 12, 27, 28, 31, 32, 33]))))
def m14r17 : List MOper := [⟨.mv (.tmp 10), none, (some 54), [10]⟩,
  ⟨.mv (.tmp 11), none, (some 55), [11]⟩,
  ⟨.mv (.tmp 12), none, (some 56), [12]⟩,
  ⟨.mv (.tmp 1), none, (some 57), [1]⟩,
  ⟨.call 25 [(.tmp 56), (.tmp 57)], none, (some 58), [56, 57]⟩,
  ⟨.call 26 [(.tmp 58)], none, (some 59), [58]⟩,
  ⟨.iaddr 1 (.tmp 54) (.tmp 55), none, (some 60), [54, 55]⟩,
  ⟨.store 1 (.tmp 60) (.tmp 59), none, none, [60, 59]⟩]
def m14r18 : List MOper := [⟨.bin .add .other (.tmp 28) (.lit (.int .i64 1)), none, (some 61), [28]⟩,
  ⟨.mv (.tmp 61), none, (some 28), [61]⟩]
def m14l19 : MCode := (.seq (.region m14r7 [0, 1, 2, 9, 10, 27, 28, 29])
  (.seq (.cond (.tmp 29)
  .skip
  (.exit 0))
  (.seq (.block 1 (.seq (.region m14r8 [0, 1, 2, 9, 10, 11, 27, 28])
  (.seq (.region m14r9 [0, 1, 2, 9, 10, 11, 12, 27, 28])
  (.seq (.seq (.region m14r10 [0, 1, 2, 9, 10, 11, 12, 27, 28, 31, 32, 33])
  (.block 2 (.loop [0, 1, 2, 9, 10, 11, 12, 27, 28, 31, 32, 33] m14l16)))
  (.region m14r17 [0, 1, 2, 9, 10, 27, 28])))))
  (.region m14r18 [0, 1, 2, 9, 10, 27, 28]))))
def m14r20 : List MOper := [⟨.mv (.tmp 10), none, (some 62), [10]⟩,
  ⟨.mv (.tmp 62), none, (some 6), [62]⟩,
  ⟨.mv (.lit (.int .u8 0)), none, (some 7), []⟩]
def m14 : MFunc := ⟨63, [.tmp 6, .tmp 7],
  (.seq (.region m14r0 [0, 1, 2])
  (.seq (.seq (.region m14r1 [0, 1, 2, 8])
  (.seq (.region m14r2 [0, 1, 2, 8, 19])
  (.cond (.tmp 19)
  (.seq (.region m14r3 [6, 7])
  .ret)
  .skip)))
  (.seq (.region m14r4 [0, 1, 2, 9])
  (.seq (.region m14r5 [0, 1, 2, 9, 10])
  (.seq (.seq (.region m14r6 [0, 1, 2, 9, 10, 27, 28])
  (.block 0 (.loop [0, 1, 2, 9, 10, 27, 28] m14l19)))
  (.seq (.region m14r20 [6, 7])
  .ret))))))⟩
def h14 : List RH := [⟨[0, 1, 2], 0, false, []⟩, ⟨[0, 1, 2, 8], 0, false, []⟩, ⟨[0, 1, 2, 8, 19], 0, false, []⟩, ⟨[6, 7], 0, false, []⟩, ⟨[0, 1, 2, 9], 0, false, []⟩, ⟨[0, 1, 2, 9, 10], 0, false, []⟩, ⟨[0, 1, 2, 9, 10, 27, 28], 0, false, []⟩, ⟨[0, 1, 2, 9, 10, 27, 28], 0, false, []⟩, ⟨[0, 1, 2, 9, 10, 27, 28, 29], 0, false, []⟩, ⟨[0, 1, 2, 9, 10, 11, 27, 28], 0, false, []⟩, ⟨[0, 1, 2, 9, 10, 11, 12, 27, 28], 0, false, []⟩, ⟨[0, 1, 2, 9, 10, 11, 12, 27, 28, 31, 32, 33], 0, false, []⟩, ⟨[0, 1, 2, 9, 10, 11, 12, 27, 28, 31, 32, 33], 0, false, []⟩, ⟨[0, 1, 2, 9, 10, 11, 12, 27, 28, 31, 32, 33, 34], 0, false, []⟩, ⟨[0, 1, 2, 9, 10, 11, 12, 14, 27, 28, 31, 32, 33], 0, false, []⟩, ⟨[0, 1, 2, 9, 10, 11, 12, 14, 27, 28, 31, 32, 33, 45], 0, false, []⟩, ⟨[0, 1, 2, 9, 10, 11, 12, 27, 28, 31, 32, 33], 0, false, []⟩, ⟨[0, 1, 2, 9, 10, 11, 12, 27, 28, 31, 32, 33], 0, false, []⟩, ⟨[0, 1, 2, 9, 10, 27, 28], 0, false, []⟩, ⟨[0, 1, 2, 9, 10, 27, 28], 0, false, []⟩, ⟨[6, 7], 0, false, []⟩]
theorem m14_ok : cmpFn Try.prog 14 h14 = some m14 := by kernel_rfl

/- dialtone/mixer.Energy -/
def m15r0 : List MOper := [⟨.mv (.lit (.int .i64 0)), none, (some 2), []⟩]
def m15r1 : List MOper := [⟨.mv (.lit (.int .i64 0)), none, (some 3), []⟩]
def m15r2 : List MOper := [⟨.mv (.tmp 0), none, (some 6), [0]⟩,
  ⟨.len 1 (.tmp 6), none, (some 7), [6]⟩,
  ⟨.mv (.lit (.int .i64 0)), none, (some 8), []⟩]
def m15r3 : List MOper := [⟨.bin .lss .other (.tmp 8) (.tmp 7), none, (some 9), [8, 7]⟩]
def m15r4 : List MOper := [⟨.iaddr 1 (.tmp 6) (.tmp 8), none, (some 10), [6, 8]⟩,
  ⟨.load none (.tmp 10), none, (some 11), [10]⟩,
  ⟨.mv (.tmp 11), none, (some 5), [11]⟩]
def m15r5 : List MOper := [⟨.mv (.tmp 3), none, (some 12), [3]⟩,
  ⟨.mv (.tmp 5), none, (some 13), [5]⟩,
  ⟨.conv .i64 (.tmp 13), none, (some 14), [13]⟩,
  ⟨.mv (.tmp 5), none, (some 15), [5]⟩,
  ⟨.conv .i64 (.tmp 15), none, (some 16), [15]⟩,
  ⟨.bin .mul .other (.tmp 14) (.tmp 16), none, (some 17), [14, 16]⟩,
  ⟨.bin .add .other (.tmp 12) (.tmp 17), none, (some 18), [12, 17]⟩,
  ⟨.mv (.tmp 18), none, (some 3), [18]⟩]
def m15r6 : List MOper := [⟨.bin .add .other (.tmp 8) (.lit (.int .i64 1)), none, (some 19), [8]⟩,
  ⟨.mv (.tmp 19), none, (some 8), [19]⟩]
def m15l7 : MCode := (.seq (.region m15r3 [3, 6, 7, 8, 9])
  (.seq (.cond (.tmp 9)
  .skip
  (.exit 0))
  (.seq (.block 1 (.seq (.region m15r4 [3, 5, 6, 7, 8])
  (.region m15r5 [3, 6, 7, 8])))
  (.region m15r6 [3, 6, 7, 8]))))
def m15r8 : List MOper := [⟨.mv (.tmp 3), none, (some 20), [3]⟩,
  ⟨.mv (.tmp 20), none, (some 2), [20]⟩]
def m15 : MFunc := ⟨21, [.tmp 2],
  (.seq (.region m15r0 [0])
  (.seq (.region m15r1 [0, 3])
  (.seq (.seq (.region m15r2 [3, 6, 7, 8])
  (.block 0 (.loop [3, 6, 7, 8] m15l7)))
  (.seq (.region m15r8 [2])
  .ret))))⟩
def h15 : List RH := [⟨[0], 0, false, []⟩, ⟨[0, 3], 0, false, []⟩, ⟨[3, 6, 7, 8], 0, false, []⟩, ⟨[3, 6, 7, 8], 0, false, []⟩, ⟨[3, 6, 7, 8, 9], 0, false, []⟩, ⟨[3, 5, 6, 7, 8], 0, false, []⟩, ⟨[3, 6, 7, 8], 0, false, []⟩, ⟨[3, 6, 7, 8], 0, false, []⟩, ⟨[2], 0, false, []⟩]
theorem m15_ok : cmpFn Try.prog 15 h15 = some m15 := by kernel_rfl

/- dialtone/dialtoneref31.Ints -/
def m18r0 : List MOper := [⟨.mv (.lit (.bool false)), none, (some 4), []⟩]
def m18r1 : List MOper := [⟨.mv (.tmp 0), none, (some 6), [0]⟩,
  ⟨.len 1 (.tmp 6), none, (some 7), [6]⟩,
  ⟨.mv (.tmp 1), none, (some 8), [1]⟩,
  ⟨.len 1 (.tmp 8), none, (some 9), [8]⟩,
  ⟨.bin .neq .other (.tmp 7) (.tmp 9), none, (some 10), [7, 9]⟩]
def m18r2 : List MOper := [⟨.mv (.lit (.bool false)), none, (some 4), []⟩]
def m18r3 : List MOper := [⟨.mv (.lit (.int .i64 0)), none, (some 5), []⟩]
def m18r4 : List MOper := [⟨.mv (.tmp 5), none, (some 11), [5]⟩,
  ⟨.mv (.tmp 0), none, (some 12), [0]⟩,
  ⟨.len 1 (.tmp 12), none, (some 13), [12]⟩,
  ⟨.bin .lss .other (.tmp 11) (.tmp 13), none, (some 14), [11, 13]⟩]
def m18r5 : List MOper := [⟨.mv (.tmp 0), none, (some 17), [0]⟩,
  ⟨.mv (.tmp 5), none, (some 18), [5]⟩,
  ⟨.iaddr 1 (.tmp 17) (.tmp 18), none, (some 19), [17, 18]⟩,
  ⟨.load none (.tmp 19), none, (some 20), [19]⟩,
  ⟨.mv (.tmp 1), none, (some 21), [1]⟩,
  ⟨.mv (.tmp 5), none, (some 22), [5]⟩,
  ⟨.iaddr 1 (.tmp 21) (.tmp 22), none, (some 23), [21, 22]⟩,
  ⟨.load none (.tmp 23), none, (some 24), [23]⟩]
def m18r6 : List MOper := [⟨.bin .neq .other (.tmp 20) (.tmp 24), none, (some 25), [20, 24]⟩]
def m18r7 : List MOper := [⟨.mv (.lit (.bool false)), none, (some 4), []⟩]
def m18r8 : List MOper := [⟨.mv (.tmp 5), none, (some 15), [5]⟩,
  ⟨.bin .add .other (.tmp 15) (.lit (.int .i64 1)), none, (some 16), [15]⟩,
  ⟨.mv (.tmp 16), none, (some 5), [16]⟩]
def m18l9 : MCode := (.seq (.seq (.region m18r4 [0, 1, 5, 14])
  (.cond (.tmp 14)
  .skip
  (.exit 0)))
  (.seq (.block 1 (.seq (.dregion m18r5 m18r6 [] [0, 1, 5, 25])
  (.cond (.tmp 25)
  (.seq (.region m18r7 [4])
  .ret)
  .skip)))
  (.region m18r8 [0, 1, 5])))
def m18r10 : List MOper := [⟨.mv (.lit (.bool true)), none, (some 4), []⟩]
def m18 : MFunc := ⟨26, [.tmp 4],
  (.seq (.region m18r0 [0, 1])
  (.seq (.seq (.region m18r1 [0, 1, 10])
  (.cond (.tmp 10)
  (.seq (.region m18r2 [4])
  .ret)
  .skip))
  (.seq (.seq (.region m18r3 [0, 1, 5])
  (.block 0 (.loop [0, 1, 5] m18l9)))
  (.seq (.region m18r10 [4])
  .ret))))⟩
def h18 : List RH := [⟨[0, 1], 0, false, []⟩, ⟨[0, 1, 10], 0, false, []⟩, ⟨[4], 0, false, []⟩, ⟨[0, 1, 5], 0, false, []⟩, ⟨[0, 1, 5], 0, false, []⟩, ⟨[0, 1, 5, 14], 0, false, []⟩, ⟨[0, 1, 5, 25], 8, false, []⟩, ⟨[4], 0, false, []⟩, ⟨[0, 1, 5], 0, false, []⟩, ⟨[4], 0, false, []⟩]
theorem m18_ok : cmpFn Try.prog 18 h18 = some m18 := by kernel_rfl

/- dialtone/mixer.Loudest -/
def m19r0 : List MOper := [⟨.mv (.lit .nils), none, (some 4), []⟩]
def m19r1 : List MOper := [⟨.mv (.tmp 0), none, (some 7), [0]⟩,
  ⟨.call 27 [(.tmp 7)], none, (some 8), [7]⟩,
  ⟨.mv (.tmp 8), none, (some 5), [8]⟩]
def m19r2 : List MOper := [⟨.mv (.tmp 5), none, (some 9), [5]⟩,
  ⟨.mv (.tmp 1), none, (some 10), [1]⟩,
  ⟨.mv (.tmp 5), none, (some 11), [5]⟩,
  ⟨.len 1 (.tmp 11), none, (some 12), [11]⟩,
  ⟨.minmax false (.tmp 10) [(.tmp 12)], none, (some 13), [10, 12]⟩,
  ⟨.minmax true (.lit (.int .i64 0)) [(.tmp 13)], none, (some 14), [13]⟩,
  ⟨.slc 1 (.tmp 9) none (some (.tmp 14)) none, none, (some 15), [9, 14]⟩,
  ⟨.mv (.tmp 15), none, (some 6), [15]⟩]
def m19r3 : List MOper := [⟨.mv (.tmp 6), none, (some 16), [6]⟩,
  ⟨.call 32 [(.tmp 16)], none, (some 17), [16]⟩]
def m19r4 : List MOper := [⟨.mv (.tmp 6), none, (some 18), [6]⟩,
  ⟨.mv (.tmp 18), none, (some 4), [18]⟩]
def m19 : MFunc := ⟨19, [.tmp 4],
  (.seq (.region m19r0 [0, 1])
  (.seq (.region m19r1 [1, 5])
  (.seq (.region m19r2 [6])
  (.seq (.region m19r3 [6])
  (.seq (.region m19r4 [4])
  .ret)))))⟩
def h19 : List RH := [⟨[0, 1], 0, false, []⟩, ⟨[1, 5], 0, false, []⟩, ⟨[6], 0, false, []⟩, ⟨[6], 0, false, []⟩, ⟨[4], 0, false, []⟩]
theorem m19_ok : cmpFn Try.prog 19 h19 = some m19 := by kernel_rfl

/- dialtone/mixer.Sum -/
def m21r0 : List MOper := [⟨.mv (.lit .nils), none, (some 4), []⟩,
  ⟨.mv (.lit (.int .u8 0)), none, (some 5), []⟩]
def m21r1 : List MOper := [⟨.mv (.tmp 0), none, (some 7), [0]⟩,
  ⟨.mv (.tmp 1), none, (some 8), [1]⟩,
  ⟨.call 24 [(.tmp 7), (.tmp 8)], none, (some 9), [7, 8]⟩,
  ⟨.mv (.tmp 9), none, (some 6), [9]⟩]
def m21r2 : List MOper := [⟨.mv (.tmp 6), none, (some 10), [6]⟩,
  ⟨.bin .neq .other (.tmp 10) (.lit (.int .u8 0)), none, (some 11), [10]⟩]
def m21r3 : List MOper := [⟨.mv (.tmp 6), none, (some 12), [6]⟩,
  ⟨.mv (.lit .nils), none, (some 4), []⟩,
  ⟨.mv (.tmp 12), none, (some 5), [12]⟩]
def m21r4 : List MOper := [⟨.mv (.tmp 0), none, (some 13), [0]⟩,
  ⟨.mv (.tmp 1), none, (some 14), [1]⟩,
  ⟨.call 25 [(.tmp 13), (.tmp 14)], none, (some 15), [13, 14]⟩,
  ⟨.mv (.tmp 15), none, (some 4), [15]⟩,
  ⟨.mv (.lit (.int .u8 0)), none, (some 5), []⟩]
def m21 : MFunc := ⟨16, [.tmp 4, .tmp 5],
  (.seq (.region m21r0 [0, 1])
  (.seq (.seq (.region m21r1 [0, 1, 6])
  (.seq (.region m21r2 [0, 1, 6, 11])
  (.cond (.tmp 11)
  (.seq (.region m21r3 [4, 5])
  .ret)
  .skip)))
  (.seq (.region m21r4 [4, 5])
  .ret)))⟩
def h21 : List RH := [⟨[0, 1], 0, false, []⟩, ⟨[0, 1, 6], 0, false, []⟩, ⟨[0, 1, 6, 11], 0, false, []⟩, ⟨[4, 5], 0, false, []⟩, ⟨[4, 5], 0, false, []⟩]
theorem m21_ok : cmpFn Try.prog 21 h21 = some m21 := by kernel_rfl

/- dialtone/mixer.saturate -/
def m22r0 : List MOper := [⟨.mv (.lit (.int .i16 0)), none, (some 2), []⟩]
def m22r1 : List MOper := [⟨.mv (.tmp 0), none, (some 3), [0]⟩,
  ⟨.minmax false (.tmp 3) [(.lit (.int .i64 32767))], none, (some 4), [3]⟩,
  ⟨.minmax true (.lit (.int .i64 (-32768))) [(.tmp 4)], none, (some 5), [4]⟩,
  ⟨.conv .i16 (.tmp 5), none, (some 6), [5]⟩,
  ⟨.mv (.tmp 6), none, (some 2), [6]⟩]
def m22 : MFunc := ⟨7, [.tmp 2],
  (.seq (.region m22r0 [0])
  (.seq (.region m22r1 [2])
  .ret))⟩
def h22 : List RH := [⟨[0], 0, false, []⟩, ⟨[2], 0, false, []⟩]
theorem m22_ok : cmpFn Try.prog 22 h22 = some m22 := by kernel_rfl

/- dialtone/mixer.check -/
def m24r0 : List MOper := [⟨.mv (.lit (.int .u8 0)), none, (some 4), []⟩]
def m24r1 : List MOper := [⟨.mv (.tmp 1), none, (some 6), [1]⟩,
  ⟨.bin .lss .other (.tmp 6) (.lit (.int .i64 0)), none, (some 7), [6]⟩,
  ⟨.mv (.tmp 7), none, (some 8), [7]⟩,
  ⟨.mv (.tmp 1), (some (8, false)), (some 9), [1]⟩,
  ⟨.bin .gtr .other (.tmp 9) (.lit (.int .i64 8000)), (some (8, false)), (some 10), [9]⟩,
  ⟨.pick (.tmp 8) (.lit (.bool true)) (.tmp 10), none, (some 11), [8, 10]⟩,
  ⟨.mv (.tmp 11), none, (some 5), [11]⟩]
def m24r2 : List MOper := [⟨.mv (.lit (.int .u8 3)), none, (some 4), []⟩]
def m24r3 : List MOper := [⟨.mv (.tmp 0), none, (some 13), [0]⟩,
  ⟨.len 1 (.tmp 13), none, (some 14), [13]⟩,
  ⟨.bin .gtr .other (.tmp 14) (.lit (.int .i64 64)), none, (some 15), [14]⟩,
  ⟨.mv (.tmp 15), none, (some 12), [15]⟩]
def m24r4 : List MOper := [⟨.mv (.lit (.int .u8 4)), none, (some 4), []⟩]
def m24r5 : List MOper := [⟨.mv (.lit (.int .u8 0)), none, (some 4), []⟩]
def m24 : MFunc := ⟨16, [.tmp 4],
  (.seq (.region m24r0 [0, 1])
  (.seq (.block 0 (.seq (.region m24r1 [0, 5])
  (.cond (.tmp 5)
  (.seq (.region m24r2 [4])
  .ret)
  (.seq (.region m24r3 [12])
  (.cond (.tmp 12)
  (.seq (.region m24r4 [4])
  .ret)
  .skip)))))
  (.seq (.region m24r5 [4])
  .ret)))⟩
def h24 : List RH := [⟨[0, 1], 0, false, []⟩, ⟨[0, 5], 0, false, []⟩, ⟨[4], 0, false, []⟩, ⟨[12], 0, false, []⟩, ⟨[4], 0, false, []⟩, ⟨[4], 0, false, []⟩]
theorem m24_ok : cmpFn Try.prog 24 h24 = some m24 := by kernel_rfl

/- dialtone/mixer.total -/
def m25r0 : List MOper := [⟨.mv (.lit .nils), none, (some 4), []⟩]
def m25r1 : List MOper := [⟨.mv (.tmp 1), none, (some 9), [1]⟩,
  ⟨.make [(.int .i64 0)] 8 (.tmp 9) (.tmp 9), none, (some 10), [9, 9]⟩,
  ⟨.mv (.tmp 10), none, (some 5), [10]⟩]
def m25r2 : List MOper := [⟨.mv (.tmp 0), none, (some 11), [0]⟩,
  ⟨.len 1 (.tmp 11), none, (some 12), [11]⟩,
  ⟨.mv (.lit (.int .i64 0)), none, (some 13), []⟩]
def m25r3 : List MOper := [⟨.bin .lss .other (.tmp 13) (.tmp 12), none, (some 14), [13, 12]⟩]
def m25r4 : List MOper := [⟨.iaddr 1 (.tmp 11) (.tmp 13), none, (some 15), [11, 13]⟩,
  ⟨.load none (.tmp 15), none, (some 16), [15]⟩,
  ⟨.mv (.tmp 16), none, (some 7), [16]⟩]
def m25r5 : List MOper := [⟨.mv (.tmp 1), none, (some 17), [1]⟩,
  ⟨.mv (.tmp 7), none, (some 18), [7]⟩,
  ⟨.len 1 (.tmp 18), none, (some 19), [18]⟩,
  ⟨.minmax false (.tmp 17) [(.tmp 19)], none, (some 20), [17, 19]⟩,
  ⟨.mv (.lit (.int .i64 0)), none, (some 21), []⟩]
def m25r6 : List MOper := [⟨.bin .lss .other (.tmp 21) (.tmp 20), none, (some 22), [21, 20]⟩]
def m25r7 : List MOper := [⟨.mv (.tmp 21), none, (some 23), [21]⟩,
  ⟨.mv (.tmp 23), none, (some 8), [23]⟩]
def m25r8 : List MOper := [⟨.mv (.tmp 5), none, (some 24), [5]⟩,
  ⟨.mv (.tmp 8), none, (some 25), [8]⟩,
  ⟨.iaddr 1 (.tmp 24) (.tmp 25), none, (some 26), [24, 25]⟩,
  ⟨.load none (.tmp 26), none, (some 27), [26]⟩,
  ⟨.mv (.tmp 7), none, (some 28), [7]⟩,
  ⟨.mv (.tmp 8), none, (some 29), [8]⟩,
  ⟨.iaddr 1 (.tmp 28) (.tmp 29), none, (some 30), [28, 29]⟩,
  ⟨.load none (.tmp 30), none, (some 31), [30]⟩,
  ⟨.conv .i64 (.tmp 31), none, (some 32), [31]⟩]
def m25r9 : List MOper := [⟨.bin .add .other (.tmp 27) (.tmp 32), none, (some 33), [27, 32]⟩,
  ⟨.iaddr 1 (.tmp 24) (.tmp 25), none, (some 34), [24, 25]⟩,
  ⟨.store 1 (.tmp 34) (.tmp 33), none, none, [34, 33]⟩]
def m25r10 : List MOper := [⟨.bin .add .other (.tmp 21) (.lit (.int .i64 1)), none, (some 35), [21]⟩,
  ⟨.mv (.tmp 35), none, (some 21), [35]⟩]
def m25l11 : MCode := (.seq (.region m25r6 [1, 5, 7, 11, 12, 13, 20, 21, 22])
  (.seq (.cond (.tmp 22)
  .skip
  (.exit 2))
  (.seq (.block 3 (.seq (.region m25r7 [1, 5, 7, 8, 11, 12, 13, 20, 21])
  (.dregion m25r8 m25r9 [] [1, 5, 7, 11, 12, 13, 20, 21])))
  (.region m25r10 [1, 5, 7, 11, 12, 13, 20, 21]))))
def m25r12 : List MOper := [⟨.bin .add .other (.tmp 13) (.lit (.int .i64 1)), none, (some 36), [13]⟩,
  ⟨.mv (.tmp 36), none, (some 13), [36]⟩]
def m25l13 : MCode := (.seq (.region m25r3 [1, 5, 11, 12, 13, 14])
  (.seq (.cond (.tmp 14)
  .skip
  (.exit 0))
  (.seq (.block 1 (.seq (.region m25r4 [1, 5, 7, 11, 12, 13])
  (.seq (.region m25r5 [1, 5, 7, 11, 12, 13, 20, 21])
  (.block 2 (.loop [1, 5, 7, 11, 12, 13, 20, 21] m25l11)))))
  (.region m25r12 [1, 5, 11, 12, 13]))))
def m25r14 : List MOper := [⟨.mv (.tmp 5), none, (some 37), [5]⟩,
  ⟨.mv (.tmp 37), none, (some 4), [37]⟩]
def m25 : MFunc := ⟨38, [.tmp 4],
  (.seq (.region m25r0 [0, 1])
  (.seq (.region m25r1 [0, 1, 5])
  (.seq (.seq (.region m25r2 [1, 5, 11, 12, 13])
  (.block 0 (.loop [1, 5, 11, 12, 13] m25l13)))
  (.seq (.region m25r14 [4])
  .ret))))⟩
def h25 : List RH := [⟨[0, 1], 0, false, []⟩, ⟨[0, 1, 5], 0, false, []⟩, ⟨[1, 5, 11, 12, 13], 0, false, []⟩, ⟨[1, 5, 11, 12, 13], 0, false, []⟩, ⟨[1, 5, 11, 12, 13, 14], 0, false, []⟩, ⟨[1, 5, 7, 11, 12, 13], 0, false, []⟩, ⟨[1, 5, 7, 11, 12, 13, 20, 21], 0, false, []⟩, ⟨[1, 5, 7, 11, 12, 13, 20, 21], 0, false, []⟩, ⟨[1, 5, 7, 11, 12, 13, 20, 21, 22], 0, false, []⟩, ⟨[1, 5, 7, 8, 11, 12, 13, 20, 21], 0, false, []⟩, ⟨[1, 5, 7, 11, 12, 13, 20, 21], 9, false, []⟩, ⟨[1, 5, 7, 11, 12, 13, 20, 21], 0, false, []⟩, ⟨[1, 5, 11, 12, 13], 0, false, []⟩, ⟨[4], 0, false, []⟩]
theorem m25_ok : cmpFn Try.prog 25 h25 = some m25 := by kernel_rfl

/- dialtone/mixer.saturated -/
def m26r0 : List MOper := [⟨.mv (.lit .nils), none, (some 2), []⟩]
def m26r1 : List MOper := [⟨.mv (.tmp 0), none, (some 6), [0]⟩,
  ⟨.len 1 (.tmp 6), none, (some 7), [6]⟩,
  ⟨.make [(.int .i16 0)] 2 (.tmp 7) (.tmp 7), none, (some 8), [7, 7]⟩,
  ⟨.mv (.tmp 8), none, (some 3), [8]⟩]
def m26r2 : List MOper := [⟨.mv (.tmp 0), none, (some 9), [0]⟩,
  ⟨.len 1 (.tmp 9), none, (some 10), [9]⟩,
  ⟨.mv (.lit (.int .i64 0)), none, (some 11), []⟩]
def m26r3 : List MOper := [⟨.bin .lss .other (.tmp 11) (.tmp 10), none, (some 12), [11, 10]⟩]
def m26r4 : List MOper := [⟨.mv (.tmp 11), none, (some 13), [11]⟩,
  ⟨.iaddr 1 (.tmp 9) (.tmp 11), none, (some 14), [9, 11]⟩,
  ⟨.load none (.tmp 14), none, (some 15), [14]⟩,
  ⟨.mv (.tmp 13), none, (some 4), [13]⟩,
  ⟨.mv (.tmp 15), none, (some 5), [15]⟩]
def m26r5 : List MOper := [⟨.mv (.tmp 3), none, (some 16), [3]⟩,
  ⟨.mv (.tmp 4), none, (some 17), [4]⟩,
  ⟨.mv (.tmp 5), none, (some 18), [5]⟩,
  ⟨.call 22 [(.tmp 18)], none, (some 19), [18]⟩,
  ⟨.iaddr 1 (.tmp 16) (.tmp 17), none, (some 20), [16, 17]⟩,
  ⟨.store 1 (.tmp 20) (.tmp 19), none, none, [20, 19]⟩]
def m26r6 : List MOper := [⟨.bin .add .other (.tmp 11) (.lit (.int .i64 1)), none, (some 21), [11]⟩,
  ⟨.mv (.tmp 21), none, (some 11), [21]⟩]
def m26l7 : MCode := (.seq (.region m26r3 [3, 9, 10, 11, 12])
  (.seq (.cond (.tmp 12)
  .skip
  (.exit 0))
  (.seq (.block 1 (.seq (.region m26r4 [3, 4, 5, 9, 10, 11])
  (.region m26r5 [3, 9, 10, 11])))
  (.region m26r6 [3, 9, 10, 11]))))
def m26r8 : List MOper := [⟨.mv (.tmp 3), none, (some 22), [3]⟩,
  ⟨.mv (.tmp 22), none, (some 2), [22]⟩]
def m26 : MFunc := ⟨23, [.tmp 2],
  (.seq (.region m26r0 [0])
  (.seq (.region m26r1 [0, 3])
  (.seq (.seq (.region m26r2 [3, 9, 10, 11])
  (.block 0 (.loop [3, 9, 10, 11] m26l7)))
  (.seq (.region m26r8 [2])
  .ret))))⟩
def h26 : List RH := [⟨[0], 0, false, []⟩, ⟨[0, 3], 0, false, []⟩, ⟨[3, 9, 10, 11], 0, false, []⟩, ⟨[3, 9, 10, 11], 0, false, []⟩, ⟨[3, 9, 10, 11, 12], 0, false, []⟩, ⟨[3, 4, 5, 9, 10, 11], 0, false, []⟩, ⟨[3, 9, 10, 11], 0, false, []⟩, ⟨[3, 9, 10, 11], 0, false, []⟩, ⟨[2], 0, false, []⟩]
theorem m26_ok : cmpFn Try.prog 26 h26 = some m26 := by kernel_rfl

/- dialtone/mixer.order -/
def m27r0 : List MOper := [⟨.mv (.lit .nils), none, (some 2), []⟩]
def m27r1 : List MOper := [⟨.mv (.tmp 0), none, (some 6), [0]⟩,
  ⟨.len 1 (.tmp 6), none, (some 7), [6]⟩,
  ⟨.make [(.int .i64 0)] 8 (.tmp 7) (.tmp 7), none, (some 8), [7, 7]⟩,
  ⟨.mv (.tmp 8), none, (some 3), [8]⟩]
def m27r2 : List MOper := [⟨.mv (.tmp 0), none, (some 9), [0]⟩,
  ⟨.len 1 (.tmp 9), none, (some 10), [9]⟩,
  ⟨.make [(.int .i64 0)] 8 (.tmp 10) (.tmp 10), none, (some 11), [10, 10]⟩,
  ⟨.zbox [.nils], none, (some 4), []⟩,
  ⟨.store 1 (.tmp 4) (.tmp 11), none, none, [4, 11]⟩]
def m27r3 : List MOper := [⟨.mv (.tmp 0), none, (some 12), [0]⟩,
  ⟨.len 1 (.tmp 12), none, (some 13), [12]⟩,
  ⟨.mv (.lit (.int .i64 0)), none, (some 14), []⟩]
def m27r4 : List MOper := [⟨.bin .lss .other (.tmp 14) (.tmp 13), none, (some 15), [14, 13]⟩]
def m27r5 : List MOper := [⟨.mv (.tmp 14), none, (some 16), [14]⟩,
  ⟨.mv (.tmp 16), none, (some 5), [16]⟩]
def m27r6 : List MOper := [⟨.mv (.tmp 3), none, (some 17), [3]⟩,
  ⟨.mv (.tmp 5), none, (some 18), [5]⟩,
  ⟨.load none (.tmp 4), none, (some 19), [4]⟩,
  ⟨.mv (.tmp 5), none, (some 20), [5]⟩,
  ⟨.mv (.tmp 5), none, (some 21), [5]⟩,
  ⟨.mv (.tmp 0), none, (some 22), [0]⟩]
def m27r7 : List MOper := [⟨.mv (.tmp 5), none, (some 23), [5]⟩,
  ⟨.iaddr 1 (.tmp 22) (.tmp 23), none, (some 24), [22, 23]⟩,
  ⟨.load none (.tmp 24), none, (some 25), [24]⟩,
  ⟨.call 15 [(.tmp 25)], none, (some 26), [25]⟩,
  ⟨.iaddr 1 (.tmp 17) (.tmp 18), none, (some 27), [17, 18]⟩,
  ⟨.store 1 (.tmp 27) (.tmp 21), none, none, [27, 21]⟩,
  ⟨.iaddr 1 (.tmp 19) (.tmp 20), none, (some 28), [19, 20]⟩,
  ⟨.store 1 (.tmp 28) (.tmp 26), none, none, [28, 26]⟩]
def m27r8 : List MOper := [⟨.load none (.tmp 4), none, (some 19), [4]⟩]
def m27r9 : List MOper := [⟨.load none (.tmp 4), none, (some 19), [4]⟩]
def m27r10 : List MOper := [⟨.load none (.tmp 4), none, (some 19), [4]⟩]
def m27r11 : List MOper := [⟨.load none (.tmp 4), none, (some 19), [4]⟩]
def m27r12 : List MOper := [⟨.load none (.tmp 4), none, (some 19), [4]⟩]
def m27r13 : List MOper := [⟨.load none (.tmp 4), none, (some 19), [4]⟩]
def m27r14 : List MOper := [⟨.load none (.tmp 4), none, (some 19), [4]⟩]
def m27r15 : List MOper := [⟨.bin .add .other (.tmp 14) (.lit (.int .i64 1)), none, (some 29), [14]⟩,
  ⟨.mv (.tmp 29), none, (some 14), [29]⟩]
def m27l16 : MCode := (.seq (.region m27r4 [0, 3, 4, 13, 14, 15])
  (.seq (.cond (.tmp 15)
  .skip
  (.exit 0))
  (.seq (.block 1 (.seq (.region m27r5 [0, 3, 4, 5, 13, 14])
  (.dregion m27r6 m27r7 [m27r8, m27r9, m27r10, m27r11, m27r12, m27r13, m27r14, [], []] [0, 3, 4, 13, 14])))
  (.region m27r15 [0, 3, 4, 13, 14]))))
def m27r17 : List MOper := [⟨.mv (.tmp 3), none, (some 30), [3]⟩,
  ⟨.mkfn 34 [] [(.tmp 4)], none, (some 31), [4]⟩,
  ⟨.call 33 [(.tmp 30), (.tmp 31)], none, (some 32), [30, 31]⟩]
def m27r18 : List MOper := [⟨.mv (.tmp 3), none, (some 33), [3]⟩,
  ⟨.mv (.tmp 33), none, (some 2), [33]⟩]
def m27 : MFunc := ⟨34, [.tmp 2],
  (.seq (.region m27r0 [0])
  (.seq (.region m27r1 [0, 3])
  (.seq (.region m27r2 [0, 3, 4])
  (.seq (.seq (.region m27r3 [0, 3, 4, 13, 14])
  (.block 0 (.loop [0, 3, 4, 13, 14] m27l16)))
  (.seq (.region m27r17 [3])
  (.seq (.region m27r18 [2])
  .ret))))))⟩
def h27 : List RH := [⟨[0], 0, false, []⟩, ⟨[0, 3], 0, false, []⟩, ⟨[0, 3, 4], 0, false, []⟩, ⟨[0, 3, 4, 13, 14], 0, false, []⟩, ⟨[0, 3, 4, 13, 14], 0, false, []⟩, ⟨[0, 3, 4, 13, 14, 15], 0, false, []⟩, ⟨[0, 3, 4, 5, 13, 14], 0, false, []⟩, ⟨[0, 3, 4, 13, 14], 6, false, []⟩, ⟨[0, 3, 4, 13, 14], 0, false, []⟩, ⟨[3], 0, false, []⟩, ⟨[2], 0, false, []⟩]
theorem m27_ok : cmpFn Try.prog 27 h27 = some m27 := by kernel_rfl

/- slices.Sort[[]int,int] -/
def m32r0 : List MOper := [⟨.mv (.tmp 0), none, (some 3), [0]⟩,
  ⟨.len 1 (.tmp 3), none, (some 4), [3]⟩,
  ⟨.mv (.tmp 4), none, (some 2), [4]⟩]
def m32r1 : List MOper := [⟨.mv (.tmp 0), none, (some 5), [0]⟩,
  ⟨.mv (.tmp 2), none, (some 6), [2]⟩,
  ⟨.mv (.tmp 2), none, (some 7), [2]⟩,
  ⟨.conv .u64 (.tmp 7), none, (some 8), [7]⟩,
  ⟨.call 38 [(.tmp 8)], none, (some 9), [8]⟩,
  ⟨.call 37 [(.tmp 5), (.lit (.int .i64 0)), (.tmp 6), (.tmp 9)], none, (some 10), [5, 6, 9]⟩]
def m32 : MFunc := ⟨11, [],
  (.seq (.region m32r0 [0, 2])
  (.region m32r1 []))⟩
def h32 : List RH := [⟨[0, 2], 0, false, []⟩, ⟨[], 0, false, []⟩]
theorem m32_ok : cmpFn Try.prog 32 h32 = some m32 := by kernel_rfl

/- slices.SortStableFunc[[]int,int] -/
def m33r0 : List MOper := [⟨.mv (.tmp 0), none, (some 4), [0]⟩,
  ⟨.mv (.tmp 0), none, (some 5), [0]⟩,
  ⟨.len 1 (.tmp 5), none, (some 6), [5]⟩,
  ⟨.mv (.tmp 1), none, (some 7), [1]⟩,
  ⟨.call 39 [(.tmp 4), (.tmp 6), (.tmp 7)], none, (some 8), [4, 6, 7]⟩]
def m33 : MFunc := ⟨9, [],
  (.region m33r0 [])⟩
def h33 : List RH := [⟨[], 0, false, []⟩]
theorem m33_ok : cmpFn Try.prog 33 h33 = some m33 := by kernel_rfl

/- dialtone/mixer.order$1 -/
def m34r0 : List MOper := [⟨.mv (.lit (.int .i64 0)), none, (some 5), []⟩]
def m34r1 : List MOper := [⟨.load none (.tmp 2), none, (some 6), [2]⟩,
  ⟨.mv (.tmp 1), none, (some 7), [1]⟩,
  ⟨.iaddr 1 (.tmp 6) (.tmp 7), none, (some 8), [6, 7]⟩,
  ⟨.load none (.tmp 8), none, (some 9), [8]⟩,
  ⟨.load none (.tmp 2), none, (some 10), [2]⟩,
  ⟨.mv (.tmp 0), none, (some 11), [0]⟩,
  ⟨.iaddr 1 (.tmp 10) (.tmp 11), none, (some 12), [10, 11]⟩,
  ⟨.load none (.tmp 12), none, (some 13), [12]⟩]
def m34r2 : List MOper := [⟨.call 35 [(.tmp 9), (.tmp 13)], none, (some 14), [9, 13]⟩,
  ⟨.mv (.tmp 14), none, (some 5), [14]⟩]
def m34 : MFunc := ⟨15, [.tmp 5],
  (.seq (.region m34r0 [0, 1, 2])
  (.seq (.dregion m34r1 m34r2 [] [5])
  .ret))⟩
def h34 : List RH := [⟨[0, 1, 2], 0, false, []⟩, ⟨[5], 8, false, []⟩]
theorem m34_ok : cmpFn Try.prog 34 h34 = some m34 := by kernel_rfl

/- cmp.Compare[int64] -/
def m35r0 : List MOper := [⟨.mv (.lit (.int .i64 0)), none, (some 4), []⟩]
def m35r1 : List MOper := [⟨.mv (.tmp 0), none, (some 7), [0]⟩,
  ⟨.call 40 [(.tmp 7)], none, (some 8), [7]⟩,
  ⟨.mv (.tmp 8), none, (some 5), [8]⟩]
def m35r2 : List MOper := [⟨.mv (.tmp 1), none, (some 9), [1]⟩,
  ⟨.call 40 [(.tmp 9)], none, (some 10), [9]⟩,
  ⟨.mv (.tmp 10), none, (some 6), [10]⟩]
def m35r3 : List MOper := [⟨.mv (.tmp 5), none, (some 11), [5]⟩]
def m35r4 : List MOper := [⟨.mv (.tmp 6), none, (some 12), [6]⟩]
def m35r5 : List MOper := [⟨.mv (.lit (.int .i64 0)), none, (some 4), []⟩]
def m35r6 : List MOper := [⟨.mv (.lit (.int .i64 (-1))), none, (some 4), []⟩]
def m35r7 : List MOper := [⟨.mv (.tmp 6), none, (some 13), [6]⟩]
def m35r8 : List MOper := [⟨.mv (.lit (.int .i64 1)), none, (some 4), []⟩]
def m35r9 : List MOper := [⟨.mv (.tmp 0), none, (some 14), [0]⟩,
  ⟨.mv (.tmp 1), none, (some 15), [1]⟩,
  ⟨.bin .lss .other (.tmp 14) (.tmp 15), none, (some 16), [14, 15]⟩]
def m35r10 : List MOper := [⟨.mv (.lit (.int .i64 (-1))), none, (some 4), []⟩]
def m35r11 : List MOper := [⟨.mv (.tmp 0), none, (some 17), [0]⟩,
  ⟨.mv (.tmp 1), none, (some 18), [1]⟩,
  ⟨.bin .gtr .other (.tmp 17) (.tmp 18), none, (some 19), [17, 18]⟩]
def m35r12 : List MOper := [⟨.mv (.lit (.int .i64 1)), none, (some 4), []⟩]
def m35r13 : List MOper := [⟨.mv (.lit (.int .i64 0)), none, (some 4), []⟩]
def m35 : MFunc := ⟨20, [.tmp 4],
  (.seq (.region m35r0 [0, 1])
  (.seq (.region m35r1 [0, 1, 5])
  (.seq (.region m35r2 [0, 1, 5, 6])
  (.seq (.seq (.region m35r3 [0, 1, 6, 11])
  (.cond (.tmp 11)
  (.seq (.seq (.region m35r4 [12])
  (.cond (.tmp 12)
  (.seq (.region m35r5 [4])
  .ret)
  .skip))
  (.seq (.region m35r6 [4])
  .ret))
  .skip))
  (.seq (.seq (.region m35r7 [0, 1, 13])
  (.cond (.tmp 13)
  (.seq (.region m35r8 [4])
  .ret)
  .skip))
  (.seq (.seq (.region m35r9 [0, 1, 16])
  (.cond (.tmp 16)
  (.seq (.region m35r10 [4])
  .ret)
  .skip))
  (.seq (.seq (.region m35r11 [19])
  (.cond (.tmp 19)
  (.seq (.region m35r12 [4])
  .ret)
  .skip))
  (.seq (.region m35r13 [4])
  .ret))))))))⟩
def h35 : List RH := [⟨[0, 1], 0, false, []⟩, ⟨[0, 1, 5], 0, false, []⟩, ⟨[0, 1, 5, 6], 0, false, []⟩, ⟨[0, 1, 6, 11], 0, false, []⟩, ⟨[12], 0, false, []⟩, ⟨[4], 0, false, []⟩, ⟨[4], 0, false, []⟩, ⟨[0, 1, 13], 0, false, []⟩, ⟨[4], 0, false, []⟩, ⟨[0, 1, 16], 0, false, []⟩, ⟨[4], 0, false, []⟩, ⟨[19], 0, false, []⟩, ⟨[4], 0, false, []⟩, ⟨[4], 0, false, []⟩]
theorem m35_ok : cmpFn Try.prog 35 h35 = some m35 := by kernel_rfl

/- slices.pdqsortOrdered[int] -/
def m37r0 : List MOper := [⟨.mv (.lit (.bool true)), none, (some 8), []⟩]
def m37r1 : List MOper := [⟨.mv (.lit (.bool true)), none, (some 9), []⟩]
def m37r2 : List MOper := [⟨.mv (.tmp 2), none, (some 19), [2]⟩,
  ⟨.mv (.tmp 1), none, (some 20), [1]⟩,
  ⟨.bin .sub .other (.tmp 19) (.tmp 20), none, (some 21), [19, 20]⟩,
  ⟨.mv (.tmp 21), none, (some 10), [21]⟩]
def m37r3 : List MOper := [⟨.mv (.tmp 10), none, (some 22), [10]⟩,
  ⟨.bin .leq .other (.tmp 22) (.lit (.int .i64 12)), none, (some 23), [22]⟩]
def m37r4 : List MOper := [⟨.mv (.tmp 0), none, (some 24), [0]⟩,
  ⟨.mv (.tmp 1), none, (some 25), [1]⟩,
  ⟨.mv (.tmp 2), none, (some 26), [2]⟩,
  ⟨.call 41 [(.tmp 24), (.tmp 25), (.tmp 26)], none, (some 27), [24, 25, 26]⟩]
def m37r5 : List MOper := [⟨.mv (.tmp 3), none, (some 28), [3]⟩,
  ⟨.bin .eql .other (.tmp 28) (.lit (.int .i64 0)), none, (some 29), [28]⟩]
def m37r6 : List MOper := [⟨.mv (.tmp 0), none, (some 30), [0]⟩,
  ⟨.mv (.tmp 1), none, (some 31), [1]⟩,
  ⟨.mv (.tmp 2), none, (some 32), [2]⟩,
  ⟨.call 42 [(.tmp 30), (.tmp 31), (.tmp 32)], none, (some 33), [30, 31, 32]⟩]
def m37r7 : List MOper := [⟨.mv (.tmp 8), none, (some 34), [8]⟩,
  ⟨.un .not (.tmp 34), none, (some 35), [34]⟩]
def m37r8 : List MOper := [⟨.mv (.tmp 0), none, (some 36), [0]⟩,
  ⟨.mv (.tmp 1), none, (some 37), [1]⟩,
  ⟨.mv (.tmp 2), none, (some 38), [2]⟩,
  ⟨.call 43 [(.tmp 36), (.tmp 37), (.tmp 38)], none, (some 39), [36, 37, 38]⟩]
def m37r9 : List MOper := [⟨.mv (.tmp 3), none, (some 40), [3]⟩,
  ⟨.bin .sub .other (.tmp 40) (.lit (.int .i64 1)), none, (some 41), [40]⟩,
  ⟨.mv (.tmp 41), none, (some 3), [41]⟩]
def m37r10 : List MOper := [⟨.mv (.tmp 0), none, (some 43), [0]⟩,
  ⟨.mv (.tmp 1), none, (some 44), [1]⟩,
  ⟨.mv (.tmp 2), none, (some 45), [2]⟩,
  ⟨.call 44 [(.tmp 43), (.tmp 44), (.tmp 45)], none, (some 46), [43, 44, 45]⟩,
  ⟨.mv (.tmp 46), none, (some 42), [46]⟩,
  ⟨.ext 0 (.tmp 42), none, (some 47), [42]⟩,
  ⟨.ext 1 (.tmp 42), none, (some 48), [42]⟩,
  ⟨.mv (.tmp 47), none, (some 11), [47]⟩,
  ⟨.mv (.tmp 48), none, (some 12), [48]⟩]
def m37r11 : List MOper := [⟨.mv (.tmp 12), none, (some 49), [12]⟩,
  ⟨.bin .eql .other (.tmp 49) (.lit (.int .i64 2)), none, (some 50), [49]⟩]
def m37r12 : List MOper := [⟨.mv (.tmp 0), none, (some 51), [0]⟩,
  ⟨.mv (.tmp 1), none, (some 52), [1]⟩,
  ⟨.mv (.tmp 2), none, (some 53), [2]⟩,
  ⟨.call 45 [(.tmp 51), (.tmp 52), (.tmp 53)], none, (some 54), [51, 52, 53]⟩]
def m37r13 : List MOper := [⟨.mv (.tmp 2), none, (some 55), [2]⟩,
  ⟨.bin .sub .other (.tmp 55) (.lit (.int .i64 1)), none, (some 56), [55]⟩,
  ⟨.mv (.tmp 11), none, (some 57), [11]⟩,
  ⟨.mv (.tmp 1), none, (some 58), [1]⟩,
  ⟨.bin .sub .other (.tmp 57) (.tmp 58), none, (some 59), [57, 58]⟩,
  ⟨.bin .sub .other (.tmp 56) (.tmp 59), none, (some 60), [56, 59]⟩,
  ⟨.mv (.tmp 60), none, (some 11), [60]⟩]
def m37r14 : List MOper := [⟨.mv (.lit (.int .i64 1)), none, (some 12), []⟩]
def m37r15 : List MOper := [⟨.mv (.tmp 8), none, (some 61), [8]⟩,
  ⟨.mv (.tmp 61), none, (some 62), [61]⟩,
  ⟨.mv (.tmp 9), (some (62, true)), (some 63), [9]⟩,
  ⟨.pick (.tmp 62) (.tmp 63) (.lit (.bool false)), none, (some 64), [62, 63]⟩,
  ⟨.mv (.tmp 64), none, (some 65), [64]⟩,
  ⟨.mv (.tmp 12), (some (65, true)), (some 66), [12]⟩,
  ⟨.bin .eql .other (.tmp 66) (.lit (.int .i64 1)), (some (65, true)), (some 67), [66]⟩,
  ⟨.pick (.tmp 65) (.tmp 67) (.lit (.bool false)), none, (some 68), [65, 67]⟩]
def m37r16 : List MOper := [⟨.mv (.tmp 0), none, (some 69), [0]⟩,
  ⟨.mv (.tmp 1), none, (some 70), [1]⟩,
  ⟨.mv (.tmp 2), none, (some 71), [2]⟩,
  ⟨.call 46 [(.tmp 69), (.tmp 70), (.tmp 71)], none, (some 72), [69, 70, 71]⟩]
def m37r17 : List MOper := [⟨.mv (.tmp 1), none, (some 73), [1]⟩,
  ⟨.bin .gtr .other (.tmp 73) (.lit (.int .i64 0)), none, (some 74), [73]⟩,
  ⟨.mv (.tmp 74), none, (some 75), [74]⟩,
  ⟨.mv (.tmp 0), (some (75, true)), (some 76), [0]⟩,
  ⟨.mv (.tmp 1), (some (75, true)), (some 77), [1]⟩,
  ⟨.bin .sub .other (.tmp 77) (.lit (.int .i64 1)), (some (75, true)), (some 78), [77]⟩,
  ⟨.iaddr 1 (.tmp 76) (.tmp 78), (some (75, true)), (some 79), [76, 78]⟩,
  ⟨.load none (.tmp 79), (some (75, true)), (some 80), [79]⟩,
  ⟨.mv (.tmp 0), (some (75, true)), (some 81), [0]⟩,
  ⟨.mv (.tmp 11), (some (75, true)), (some 82), [11]⟩,
  ⟨.iaddr 1 (.tmp 81) (.tmp 82), (some (75, true)), (some 83), [81, 82]⟩,
  ⟨.load none (.tmp 83), (some (75, true)), (some 84), [83]⟩]
def m37r18 : List MOper := [⟨.call 47 [(.tmp 80), (.tmp 84)], (some (75, true)), (some 85), [80, 84]⟩,
  ⟨.un .not (.tmp 85), (some (75, true)), (some 86), [85]⟩,
  ⟨.pick (.tmp 75) (.tmp 86) (.lit (.bool false)), none, (some 87), [75, 86]⟩]
def m37r19 : List MOper := [⟨.mv (.tmp 0), none, (some 88), [0]⟩,
  ⟨.mv (.tmp 1), none, (some 89), [1]⟩,
  ⟨.mv (.tmp 2), none, (some 90), [2]⟩,
  ⟨.mv (.tmp 11), none, (some 91), [11]⟩,
  ⟨.call 48 [(.tmp 88), (.tmp 89), (.tmp 90), (.tmp 91)], none, (some 92), [88, 89, 90, 91]⟩,
  ⟨.mv (.tmp 92), none, (some 13), [92]⟩]
def m37r20 : List MOper := [⟨.mv (.tmp 13), none, (some 93), [13]⟩,
  ⟨.mv (.tmp 93), none, (some 1), [93]⟩]
def m37r21 : List MOper := [⟨.mv (.tmp 0), none, (some 95), [0]⟩,
  ⟨.mv (.tmp 1), none, (some 96), [1]⟩,
  ⟨.mv (.tmp 2), none, (some 97), [2]⟩,
  ⟨.mv (.tmp 11), none, (some 98), [11]⟩,
  ⟨.call 49 [(.tmp 95), (.tmp 96), (.tmp 97), (.tmp 98)], none, (some 99), [95, 96, 97, 98]⟩,
  ⟨.mv (.tmp 99), none, (some 94), [99]⟩,
  ⟨.ext 0 (.tmp 94), none, (some 100), [94]⟩,
  ⟨.ext 1 (.tmp 94), none, (some 101), [94]⟩,
  ⟨.mv (.tmp 100), none, (some 14), [100]⟩,
  ⟨.mv (.tmp 101), none, (some 15), [101]⟩]
def m37r22 : List MOper := [⟨.mv (.tmp 15), none, (some 102), [15]⟩,
  ⟨.mv (.tmp 102), none, (some 9), [102]⟩]
def m37r23 : List MOper := [⟨.mv (.tmp 14), none, (some 103), [14]⟩,
  ⟨.mv (.tmp 1), none, (some 104), [1]⟩,
  ⟨.bin .sub .other (.tmp 103) (.tmp 104), none, (some 105), [103, 104]⟩,
  ⟨.mv (.tmp 2), none, (some 106), [2]⟩,
  ⟨.mv (.tmp 14), none, (some 107), [14]⟩,
  ⟨.bin .sub .other (.tmp 106) (.tmp 107), none, (some 108), [106, 107]⟩,
  ⟨.mv (.tmp 105), none, (some 16), [105]⟩,
  ⟨.mv (.tmp 108), none, (some 17), [108]⟩]
def m37r24 : List MOper := [⟨.mv (.tmp 10), none, (some 109), [10]⟩,
  ⟨.bin .quo .other (.tmp 109) (.lit (.int .i64 8)), none, (some 110), [109]⟩,
  ⟨.mv (.tmp 110), none, (some 18), [110]⟩]
def m37r25 : List MOper := [⟨.mv (.tmp 16), none, (some 111), [16]⟩,
  ⟨.mv (.tmp 17), none, (some 112), [17]⟩,
  ⟨.bin .lss .other (.tmp 111) (.tmp 112), none, (some 113), [111, 112]⟩]
def m37r26 : List MOper := [⟨.mv (.tmp 16), none, (some 114), [16]⟩,
  ⟨.mv (.tmp 18), none, (some 115), [18]⟩,
  ⟨.bin .geq .other (.tmp 114) (.tmp 115), none, (some 116), [114, 115]⟩,
  ⟨.mv (.tmp 116), none, (some 8), [116]⟩]
def m37r27 : List MOper := [⟨.mv (.tmp 0), none, (some 117), [0]⟩,
  ⟨.mv (.tmp 1), none, (some 118), [1]⟩,
  ⟨.mv (.tmp 14), none, (some 119), [14]⟩,
  ⟨.mv (.tmp 3), none, (some 120), [3]⟩,
  ⟨.call 37 [(.tmp 117), (.tmp 118), (.tmp 119), (.tmp 120)], none, (some 121), [117, 118, 119, 120]⟩]
def m37r28 : List MOper := [⟨.mv (.tmp 14), none, (some 122), [14]⟩,
  ⟨.bin .add .other (.tmp 122) (.lit (.int .i64 1)), none, (some 123), [122]⟩,
  ⟨.mv (.tmp 123), none, (some 1), [123]⟩]
def m37r29 : List MOper := [⟨.mv (.tmp 17), none, (some 124), [17]⟩,
  ⟨.mv (.tmp 18), none, (some 125), [18]⟩,
  ⟨.bin .geq .other (.tmp 124) (.tmp 125), none, (some 126), [124, 125]⟩,
  ⟨.mv (.tmp 126), none, (some 8), [126]⟩]
def m37r30 : List MOper := [⟨.mv (.tmp 0), none, (some 127), [0]⟩,
  ⟨.mv (.tmp 14), none, (some 128), [14]⟩,
  ⟨.bin .add .other (.tmp 128) (.lit (.int .i64 1)), none, (some 129), [128]⟩,
  ⟨.mv (.tmp 2), none, (some 130), [2]⟩,
  ⟨.mv (.tmp 3), none, (some 131), [3]⟩,
  ⟨.call 37 [(.tmp 127), (.tmp 129), (.tmp 130), (.tmp 131)], none, (some 132), [127, 129, 130, 131]⟩]
def m37r31 : List MOper := [⟨.mv (.tmp 14), none, (some 133), [14]⟩,
  ⟨.mv (.tmp 133), none, (some 2), [133]⟩]
def m37l32 : MCode := (.block 1 (.seq (.region m37r2 [0, 1, 2, 3, 8, 9, 10])
  (.seq (.seq (.region m37r3 [0, 1, 2, 3, 8, 9, 10, 23])
  (.cond (.tmp 23)
  (.seq (.region m37r4 [])
  .ret)
  .skip))
  (.seq (.seq (.region m37r5 [0, 1, 2, 3, 8, 9, 10, 29])
  (.cond (.tmp 29)
  (.seq (.region m37r6 [])
  .ret)
  .skip))
  (.seq (.seq (.region m37r7 [0, 1, 2, 3, 8, 9, 10, 35])
  (.cond (.tmp 35)
  (.seq (.region m37r8 [0, 1, 2, 3, 8, 9, 10])
  (.region m37r9 [0, 1, 2, 3, 8, 9, 10]))
  .skip))
  (.seq (.region m37r10 [0, 1, 2, 3, 8, 9, 10, 11, 12])
  (.seq (.seq (.region m37r11 [0, 1, 2, 3, 8, 9, 10, 11, 12, 50])
  (.cond (.tmp 50)
  (.seq (.region m37r12 [0, 1, 2, 3, 8, 9, 10, 11])
  (.seq (.region m37r13 [0, 1, 2, 3, 8, 9, 10, 11])
  (.region m37r14 [0, 1, 2, 3, 8, 9, 10, 11, 12])))
  .skip))
  (.seq (.seq (.region m37r15 [0, 1, 2, 3, 8, 9, 10, 11, 68])
  (.cond (.tmp 68)
  (.seq (.region m37r16 [0, 1, 2, 3, 8, 9, 10, 11, 72])
  (.cond (.tmp 72)
  .ret
  .skip))
  .skip))
  (.seq (.seq (.dregion m37r17 m37r18 [] [0, 1, 2, 3, 8, 9, 10, 11, 87])
  (.cond (.tmp 87)
  (.seq (.region m37r19 [0, 2, 3, 8, 9, 13])
  (.seq (.region m37r20 [0, 1, 2, 3, 8, 9])
  (.exit 1)))
  .skip))
  (.seq (.region m37r21 [0, 1, 2, 3, 10, 14, 15])
  (.seq (.region m37r22 [0, 1, 2, 3, 9, 10, 14])
  (.seq (.region m37r23 [0, 1, 2, 3, 9, 10, 14, 16, 17])
  (.seq (.region m37r24 [0, 1, 2, 3, 9, 14, 16, 17, 18])
  (.seq (.region m37r25 [0, 1, 2, 3, 9, 14, 16, 17, 18, 113])
  (.cond (.tmp 113)
  (.seq (.region m37r26 [0, 1, 2, 3, 8, 9, 14])
  (.seq (.region m37r27 [0, 2, 3, 8, 9, 14])
  (.region m37r28 [0, 1, 2, 3, 8, 9])))
  (.seq (.region m37r29 [0, 1, 2, 3, 8, 9, 14])
  (.seq (.region m37r30 [0, 1, 3, 8, 9, 14])
  (.region m37r31 [0, 1, 2, 3, 8, 9]))))))))))))))))))
def m37 : MFunc := ⟨134, [],
  (.seq (.region m37r0 [0, 1, 2, 3, 8])
  (.seq (.region m37r1 [0, 1, 2, 3, 8, 9])
  (.block 0 (.loop [0, 1, 2, 3, 8, 9] m37l32))))⟩
def h37 : List RH := [⟨[0, 1, 2, 3, 8], 0, false, []⟩, ⟨[0, 1, 2, 3, 8, 9], 0, false, []⟩, ⟨[0, 1, 2, 3, 8, 9], 0, false, []⟩, ⟨[0, 1, 2, 3, 8, 9, 10], 0, false, []⟩, ⟨[0, 1, 2, 3, 8, 9, 10, 23], 0, false, []⟩, ⟨[], 0, false, []⟩, ⟨[0, 1, 2, 3, 8, 9, 10, 29], 0, false, []⟩, ⟨[], 0, false, []⟩, ⟨[0, 1, 2, 3, 8, 9, 10, 35], 0, false, []⟩, ⟨[0, 1, 2, 3, 8, 9, 10], 0, false, []⟩, ⟨[0, 1, 2, 3, 8, 9, 10], 0, false, []⟩, ⟨[0, 1, 2, 3, 8, 9, 10, 11, 12], 0, false, []⟩, ⟨[0, 1, 2, 3, 8, 9, 10, 11, 12, 50], 0, false, []⟩, ⟨[0, 1, 2, 3, 8, 9, 10, 11], 0, false, []⟩, ⟨[0, 1, 2, 3, 8, 9, 10, 11], 0, false, []⟩, ⟨[0, 1, 2, 3, 8, 9, 10, 11, 12], 0, false, []⟩, ⟨[0, 1, 2, 3, 8, 9, 10, 11, 68], 0, false, []⟩, ⟨[0, 1, 2, 3, 8, 9, 10, 11, 72], 0, false, []⟩, ⟨[0, 1, 2, 3, 8, 9, 10, 11, 87], 12, false, []⟩, ⟨[0, 2, 3, 8, 9, 13], 0, false, []⟩, ⟨[0, 1, 2, 3, 8, 9], 0, false, []⟩, ⟨[0, 1, 2, 3, 10, 14, 15], 0, false, []⟩, ⟨[0, 1, 2, 3, 9, 10, 14], 0, false, []⟩, ⟨[0, 1, 2, 3, 9, 10, 14, 16, 17], 0, false, []⟩, ⟨[0, 1, 2, 3, 9, 14, 16, 17, 18], 0, false, []⟩, ⟨[0, 1, 2, 3, 9, 14, 16, 17, 18, 113], 0, false, []⟩, ⟨[0, 1, 2, 3, 8, 9, 14], 0, false, []⟩, ⟨[0, 2, 3, 8, 9, 14], 0, false, []⟩, ⟨[0, 1, 2, 3, 8, 9], 0, false, []⟩, ⟨[0, 1, 2, 3, 8, 9, 14], 0, false, []⟩, ⟨[0, 1, 3, 8, 9, 14], 0, false, []⟩, ⟨[0, 1, 2, 3, 8, 9], 0, false, []⟩]
theorem m37_ok : cmpFn Try.prog 37 h37 = some m37 := by kernel_rfl

/- math/bits.Len -/
def m38r0 : List MOper := [⟨.mv (.lit (.int .i64 0)), none, (some 2), []⟩]
def m38r1 : List MOper := [⟨.mv (.tmp 0), none, (some 3), [0]⟩,
  ⟨.conv .u32 (.tmp 3), none, (some 4), [3]⟩,
  ⟨.call 50 [(.tmp 4)], none, (some 5), [4]⟩,
  ⟨.mv (.tmp 5), none, (some 2), [5]⟩]
def m38r2 : List MOper := [⟨.mv (.tmp 0), none, (some 6), [0]⟩,
  ⟨.call 51 [(.tmp 6)], none, (some 7), [6]⟩,
  ⟨.mv (.tmp 7), none, (some 2), [7]⟩]
def m38 : MFunc := ⟨8, [.tmp 2],
  (.seq (.region m38r0 [0])
  (.seq (.cond (.lit (.bool false))
  (.seq (.region m38r1 [2])
  .ret)
  .skip)
  (.seq (.region m38r2 [2])
  .ret)))⟩
def h38 : List RH := [⟨[0], 0, false, []⟩, ⟨[2], 0, false, []⟩, ⟨[2], 0, false, []⟩]
theorem m38_ok : cmpFn Try.prog 38 h38 = some m38 := by kernel_rfl

/- slices.stableCmpFunc[int] -/
def m39r0 : List MOper := [⟨.mv (.lit (.int .i64 20)), none, (some 6), []⟩]
def m39r1 : List MOper := [⟨.mv (.tmp 6), none, (some 10), [6]⟩,
  ⟨.mv (.lit (.int .i64 0)), none, (some 7), []⟩,
  ⟨.mv (.tmp 10), none, (some 8), [10]⟩]
def m39r2 : List MOper := [⟨.mv (.tmp 8), none, (some 11), [8]⟩,
  ⟨.mv (.tmp 1), none, (some 12), [1]⟩,
  ⟨.bin .leq .other (.tmp 11) (.tmp 12), none, (some 13), [11, 12]⟩]
def m39r3 : List MOper := [⟨.mv (.tmp 0), none, (some 14), [0]⟩,
  ⟨.mv (.tmp 7), none, (some 15), [7]⟩,
  ⟨.mv (.tmp 8), none, (some 16), [8]⟩,
  ⟨.mv (.tmp 2), none, (some 17), [2]⟩,
  ⟨.call 52 [(.tmp 14), (.tmp 15), (.tmp 16), (.tmp 17)], none, (some 18), [14, 15, 16, 17]⟩]
def m39r4 : List MOper := [⟨.mv (.tmp 8), none, (some 19), [8]⟩,
  ⟨.mv (.tmp 19), none, (some 7), [19]⟩]
def m39r5 : List MOper := [⟨.mv (.tmp 8), none, (some 20), [8]⟩,
  ⟨.mv (.tmp 6), none, (some 21), [6]⟩,
  ⟨.bin .add .other (.tmp 20) (.tmp 21), none, (some 22), [20, 21]⟩,
  ⟨.mv (.tmp 22), none, (some 8), [22]⟩]
def m39l6 : MCode := (.seq (.seq (.region m39r2 [0, 1, 2, 6, 7, 8, 13])
  (.cond (.tmp 13)
  .skip
  (.exit 0)))
  (.block 1 (.seq (.region m39r3 [0, 1, 2, 6, 8])
  (.seq (.region m39r4 [0, 1, 2, 6, 7, 8])
  (.region m39r5 [0, 1, 2, 6, 7, 8])))))
def m39r7 : List MOper := [⟨.mv (.tmp 0), none, (some 23), [0]⟩,
  ⟨.mv (.tmp 7), none, (some 24), [7]⟩,
  ⟨.mv (.tmp 1), none, (some 25), [1]⟩,
  ⟨.mv (.tmp 2), none, (some 26), [2]⟩,
  ⟨.call 52 [(.tmp 23), (.tmp 24), (.tmp 25), (.tmp 26)], none, (some 27), [23, 24, 25, 26]⟩]
def m39r8 : List MOper := [⟨.mv (.tmp 6), none, (some 28), [6]⟩,
  ⟨.mv (.tmp 1), none, (some 29), [1]⟩,
  ⟨.bin .lss .other (.tmp 28) (.tmp 29), none, (some 30), [28, 29]⟩]
def m39r9 : List MOper := [⟨.mv (.tmp 6), none, (some 31), [6]⟩,
  ⟨.bin .mul .other (.lit (.int .i64 2)) (.tmp 31), none, (some 32), [31]⟩,
  ⟨.mv (.lit (.int .i64 0)), none, (some 7), []⟩,
  ⟨.mv (.tmp 32), none, (some 8), [32]⟩]
def m39r10 : List MOper := [⟨.mv (.tmp 8), none, (some 33), [8]⟩,
  ⟨.mv (.tmp 1), none, (some 34), [1]⟩,
  ⟨.bin .leq .other (.tmp 33) (.tmp 34), none, (some 35), [33, 34]⟩]
def m39r11 : List MOper := [⟨.mv (.tmp 0), none, (some 36), [0]⟩,
  ⟨.mv (.tmp 7), none, (some 37), [7]⟩,
  ⟨.mv (.tmp 7), none, (some 38), [7]⟩,
  ⟨.mv (.tmp 6), none, (some 39), [6]⟩,
  ⟨.bin .add .other (.tmp 38) (.tmp 39), none, (some 40), [38, 39]⟩,
  ⟨.mv (.tmp 8), none, (some 41), [8]⟩,
  ⟨.mv (.tmp 2), none, (some 42), [2]⟩,
  ⟨.call 53 [(.tmp 36), (.tmp 37), (.tmp 40), (.tmp 41), (.tmp 42)], none, (some 43), [36, 37, 40, 41, 42]⟩]
def m39r12 : List MOper := [⟨.mv (.tmp 8), none, (some 44), [8]⟩,
  ⟨.mv (.tmp 44), none, (some 7), [44]⟩]
def m39r13 : List MOper := [⟨.mv (.tmp 8), none, (some 45), [8]⟩,
  ⟨.mv (.tmp 6), none, (some 46), [6]⟩,
  ⟨.bin .mul .other (.lit (.int .i64 2)) (.tmp 46), none, (some 47), [46]⟩,
  ⟨.bin .add .other (.tmp 45) (.tmp 47), none, (some 48), [45, 47]⟩,
  ⟨.mv (.tmp 48), none, (some 8), [48]⟩]
def m39l14 : MCode := (.seq (.seq (.region m39r10 [0, 1, 2, 6, 7, 8, 35])
  (.cond (.tmp 35)
  .skip
  (.exit 4)))
  (.block 5 (.seq (.region m39r11 [0, 1, 2, 6, 8])
  (.seq (.region m39r12 [0, 1, 2, 6, 7, 8])
  (.region m39r13 [0, 1, 2, 6, 7, 8])))))
def m39r15 : List MOper := [⟨.mv (.tmp 7), none, (some 49), [7]⟩,
  ⟨.mv (.tmp 6), none, (some 50), [6]⟩,
  ⟨.bin .add .other (.tmp 49) (.tmp 50), none, (some 51), [49, 50]⟩,
  ⟨.mv (.tmp 51), none, (some 9), [51]⟩]
def m39r16 : List MOper := [⟨.mv (.tmp 9), none, (some 52), [9]⟩,
  ⟨.mv (.tmp 1), none, (some 53), [1]⟩,
  ⟨.bin .lss .other (.tmp 52) (.tmp 53), none, (some 54), [52, 53]⟩]
def m39r17 : List MOper := [⟨.mv (.tmp 0), none, (some 55), [0]⟩,
  ⟨.mv (.tmp 7), none, (some 56), [7]⟩,
  ⟨.mv (.tmp 9), none, (some 57), [9]⟩,
  ⟨.mv (.tmp 1), none, (some 58), [1]⟩,
  ⟨.mv (.tmp 2), none, (some 59), [2]⟩,
  ⟨.call 53 [(.tmp 55), (.tmp 56), (.tmp 57), (.tmp 58), (.tmp 59)], none, (some 60), [55, 56, 57, 58, 59]⟩]
def m39r18 : List MOper := [⟨.mv (.tmp 6), none, (some 61), [6]⟩,
  ⟨.bin .mul .other (.tmp 61) (.lit (.int .i64 2)), none, (some 62), [61]⟩,
  ⟨.mv (.tmp 62), none, (some 6), [62]⟩]
def m39l19 : MCode := (.seq (.seq (.region m39r8 [0, 1, 2, 6, 30])
  (.cond (.tmp 30)
  .skip
  (.exit 2)))
  (.block 3 (.seq (.region m39r9 [0, 1, 2, 6, 7, 8])
  (.seq (.block 4 (.loop [0, 1, 2, 6, 7, 8] m39l14))
  (.seq (.seq (.region m39r15 [0, 1, 2, 6, 7, 9])
  (.seq (.region m39r16 [0, 1, 2, 6, 7, 9, 54])
  (.cond (.tmp 54)
  (.region m39r17 [0, 1, 2, 6])
  .skip)))
  (.region m39r18 [0, 1, 2, 6]))))))
def m39 : MFunc := ⟨63, [],
  (.seq (.region m39r0 [0, 1, 2, 6])
  (.seq (.region m39r1 [0, 1, 2, 6, 7, 8])
  (.seq (.block 0 (.loop [0, 1, 2, 6, 7, 8] m39l6))
  (.seq (.region m39r7 [0, 1, 2, 6])
  (.block 2 (.loop [0, 1, 2, 6] m39l19))))))⟩
def h39 : List RH := [⟨[0, 1, 2, 6], 0, false, []⟩, ⟨[0, 1, 2, 6, 7, 8], 0, false, []⟩, ⟨[0, 1, 2, 6, 7, 8], 0, false, []⟩, ⟨[0, 1, 2, 6, 7, 8, 13], 0, false, []⟩, ⟨[0, 1, 2, 6, 8], 0, false, []⟩, ⟨[0, 1, 2, 6, 7, 8], 0, false, []⟩, ⟨[0, 1, 2, 6, 7, 8], 0, false, []⟩, ⟨[0, 1, 2, 6], 0, false, []⟩, ⟨[0, 1, 2, 6], 0, false, []⟩, ⟨[0, 1, 2, 6, 30], 0, false, []⟩, ⟨[0, 1, 2, 6, 7, 8], 0, false, []⟩, ⟨[0, 1, 2, 6, 7, 8], 0, false, []⟩, ⟨[0, 1, 2, 6, 7, 8, 35], 0, false, []⟩, ⟨[0, 1, 2, 6, 8], 0, false, []⟩, ⟨[0, 1, 2, 6, 7, 8], 0, false, []⟩, ⟨[0, 1, 2, 6, 7, 8], 0, false, []⟩, ⟨[0, 1, 2, 6, 7, 9], 0, false, []⟩, ⟨[0, 1, 2, 6, 7, 9, 54], 0, false, []⟩, ⟨[0, 1, 2, 6], 0, false, []⟩, ⟨[0, 1, 2, 6], 0, false, []⟩]
theorem m39_ok : cmpFn Try.prog 39 h39 = some m39 := by kernel_rfl

/- cmp.isNaN[int64] -/
def m40r0 : List MOper := [⟨.mv (.lit (.bool false)), none, (some 2), []⟩]
def m40r1 : List MOper := [⟨.mv (.tmp 0), none, (some 3), [0]⟩,
  ⟨.mv (.tmp 0), none, (some 4), [0]⟩,
  ⟨.bin .neq .other (.tmp 3) (.tmp 4), none, (some 5), [3, 4]⟩,
  ⟨.mv (.tmp 5), none, (some 2), [5]⟩]
def m40 : MFunc := ⟨6, [.tmp 2],
  (.seq (.region m40r0 [0])
  (.seq (.region m40r1 [2])
  .ret))⟩
def h40 : List RH := [⟨[0], 0, false, []⟩, ⟨[2], 0, false, []⟩]
theorem m40_ok : cmpFn Try.prog 40 h40 = some m40 := by kernel_rfl

/- slices.insertionSortOrdered[int] -/
def m41r0 : List MOper := [⟨.mv (.tmp 1), none, (some 8), [1]⟩,
  ⟨.bin .add .other (.tmp 8) (.lit (.int .i64 1)), none, (some 9), [8]⟩,
  ⟨.mv (.tmp 9), none, (some 6), [9]⟩]
def m41r1 : List MOper := [⟨.mv (.tmp 6), none, (some 10), [6]⟩,
  ⟨.mv (.tmp 2), none, (some 11), [2]⟩,
  ⟨.bin .lss .other (.tmp 10) (.tmp 11), none, (some 12), [10, 11]⟩]
def m41r2 : List MOper := [⟨.mv (.tmp 6), none, (some 15), [6]⟩,
  ⟨.mv (.tmp 15), none, (some 7), [15]⟩]
def m41r3 : List MOper := [⟨.mv (.tmp 7), none, (some 16), [7]⟩,
  ⟨.mv (.tmp 1), none, (some 17), [1]⟩,
  ⟨.bin .gtr .other (.tmp 16) (.tmp 17), none, (some 18), [16, 17]⟩,
  ⟨.mv (.tmp 18), none, (some 19), [18]⟩,
  ⟨.mv (.tmp 0), (some (19, true)), (some 20), [0]⟩,
  ⟨.mv (.tmp 7), (some (19, true)), (some 21), [7]⟩,
  ⟨.iaddr 1 (.tmp 20) (.tmp 21), (some (19, true)), (some 22), [20, 21]⟩,
  ⟨.load none (.tmp 22), (some (19, true)), (some 23), [22]⟩,
  ⟨.mv (.tmp 0), (some (19, true)), (some 24), [0]⟩,
  ⟨.mv (.tmp 7), (some (19, true)), (some 25), [7]⟩,
  ⟨.bin .sub .other (.tmp 25) (.lit (.int .i64 1)), (some (19, true)), (some 26), [25]⟩,
  ⟨.iaddr 1 (.tmp 24) (.tmp 26), (some (19, true)), (some 27), [24, 26]⟩,
  ⟨.load none (.tmp 27), (some (19, true)), (some 28), [27]⟩]
def m41r4 : List MOper := [⟨.call 47 [(.tmp 23), (.tmp 28)], (some (19, true)), (some 29), [23, 28]⟩,
  ⟨.pick (.tmp 19) (.tmp 29) (.lit (.bool false)), none, (some 30), [19, 29]⟩]
def m41r5 : List MOper := [⟨.mv (.tmp 0), none, (some 33), [0]⟩,
  ⟨.mv (.tmp 7), none, (some 34), [7]⟩,
  ⟨.mv (.tmp 0), none, (some 35), [0]⟩,
  ⟨.mv (.tmp 7), none, (some 36), [7]⟩,
  ⟨.bin .sub .other (.tmp 36) (.lit (.int .i64 1)), none, (some 37), [36]⟩,
  ⟨.mv (.tmp 0), none, (some 38), [0]⟩,
  ⟨.mv (.tmp 7), none, (some 39), [7]⟩,
  ⟨.bin .sub .other (.tmp 39) (.lit (.int .i64 1)), none, (some 40), [39]⟩,
  ⟨.iaddr 1 (.tmp 38) (.tmp 40), none, (some 41), [38, 40]⟩,
  ⟨.load none (.tmp 41), none, (some 42), [41]⟩,
  ⟨.mv (.tmp 0), none, (some 43), [0]⟩,
  ⟨.mv (.tmp 7), none, (some 44), [7]⟩,
  ⟨.iaddr 1 (.tmp 43) (.tmp 44), none, (some 45), [43, 44]⟩,
  ⟨.load none (.tmp 45), none, (some 46), [45]⟩]
def m41r6 : List MOper := [⟨.iaddr 1 (.tmp 33) (.tmp 34), none, (some 47), [33, 34]⟩,
  ⟨.store 1 (.tmp 47) (.tmp 42), none, none, [47, 42]⟩,
  ⟨.iaddr 1 (.tmp 35) (.tmp 37), none, (some 48), [35, 37]⟩,
  ⟨.store 1 (.tmp 48) (.tmp 46), none, none, [48, 46]⟩]
def m41r7 : List MOper := [⟨.mv (.tmp 7), none, (some 31), [7]⟩,
  ⟨.bin .sub .other (.tmp 31) (.lit (.int .i64 1)), none, (some 32), [31]⟩,
  ⟨.mv (.tmp 32), none, (some 7), [32]⟩]
def m41l8 : MCode := (.seq (.seq (.dregion m41r3 m41r4 [] [0, 1, 2, 6, 7, 30])
  (.cond (.tmp 30)
  .skip
  (.exit 2)))
  (.seq (.block 3 (.dregion m41r5 m41r6 [] [0, 1, 2, 6, 7]))
  (.region m41r7 [0, 1, 2, 6, 7])))
def m41r9 : List MOper := [⟨.mv (.tmp 6), none, (some 13), [6]⟩,
  ⟨.bin .add .other (.tmp 13) (.lit (.int .i64 1)), none, (some 14), [13]⟩,
  ⟨.mv (.tmp 14), none, (some 6), [14]⟩]
def m41l10 : MCode := (.seq (.seq (.region m41r1 [0, 1, 2, 6, 12])
  (.cond (.tmp 12)
  .skip
  (.exit 0)))
  (.seq (.block 1 (.seq (.region m41r2 [0, 1, 2, 6, 7])
  (.block 2 (.loop [0, 1, 2, 6, 7] m41l8))))
  (.region m41r9 [0, 1, 2, 6])))
def m41 : MFunc := ⟨49, [],
  (.seq (.region m41r0 [0, 1, 2, 6])
  (.block 0 (.loop [0, 1, 2, 6] m41l10)))⟩
def h41 : List RH := [⟨[0, 1, 2, 6], 0, false, []⟩, ⟨[0, 1, 2, 6], 0, false, []⟩, ⟨[0, 1, 2, 6, 12], 0, false, []⟩, ⟨[0, 1, 2, 6, 7], 0, false, []⟩, ⟨[0, 1, 2, 6, 7], 0, false, []⟩, ⟨[0, 1, 2, 6, 7, 30], 13, false, []⟩, ⟨[0, 1, 2, 6, 7], 14, false, []⟩, ⟨[0, 1, 2, 6, 7], 0, false, []⟩, ⟨[0, 1, 2, 6], 0, false, []⟩]
theorem m41_ok : cmpFn Try.prog 41 h41 = some m41 := by kernel_rfl

/- slices.heapSortOrdered[int] -/
def m42r0 : List MOper := [⟨.mv (.tmp 1), none, (some 11), [1]⟩,
  ⟨.mv (.tmp 11), none, (some 6), [11]⟩]
def m42r1 : List MOper := [⟨.mv (.lit (.int .i64 0)), none, (some 7), []⟩]
def m42r2 : List MOper := [⟨.mv (.tmp 2), none, (some 12), [2]⟩,
  ⟨.mv (.tmp 1), none, (some 13), [1]⟩,
  ⟨.bin .sub .other (.tmp 12) (.tmp 13), none, (some 14), [12, 13]⟩,
  ⟨.mv (.tmp 14), none, (some 8), [14]⟩]
def m42r3 : List MOper := [⟨.mv (.tmp 8), none, (some 15), [8]⟩,
  ⟨.bin .sub .other (.tmp 15) (.lit (.int .i64 1)), none, (some 16), [15]⟩,
  ⟨.bin .quo .other (.tmp 16) (.lit (.int .i64 2)), none, (some 17), [16]⟩,
  ⟨.mv (.tmp 17), none, (some 9), [17]⟩]
def m42r4 : List MOper := [⟨.mv (.tmp 9), none, (some 18), [9]⟩,
  ⟨.bin .geq .other (.tmp 18) (.lit (.int .i64 0)), none, (some 19), [18]⟩]
def m42r5 : List MOper := [⟨.mv (.tmp 0), none, (some 22), [0]⟩,
  ⟨.mv (.tmp 9), none, (some 23), [9]⟩,
  ⟨.mv (.tmp 8), none, (some 24), [8]⟩,
  ⟨.mv (.tmp 6), none, (some 25), [6]⟩,
  ⟨.call 54 [(.tmp 22), (.tmp 23), (.tmp 24), (.tmp 25)], none, (some 26), [22, 23, 24, 25]⟩]
def m42r6 : List MOper := [⟨.mv (.tmp 9), none, (some 20), [9]⟩,
  ⟨.bin .sub .other (.tmp 20) (.lit (.int .i64 1)), none, (some 21), [20]⟩,
  ⟨.mv (.tmp 21), none, (some 9), [21]⟩]
def m42l7 : MCode := (.seq (.seq (.region m42r4 [0, 6, 7, 8, 9, 19])
  (.cond (.tmp 19)
  .skip
  (.exit 0)))
  (.seq (.block 1 (.region m42r5 [0, 6, 7, 8, 9]))
  (.region m42r6 [0, 6, 7, 8, 9])))
def m42r8 : List MOper := [⟨.mv (.tmp 8), none, (some 27), [8]⟩,
  ⟨.bin .sub .other (.tmp 27) (.lit (.int .i64 1)), none, (some 28), [27]⟩,
  ⟨.mv (.tmp 28), none, (some 10), [28]⟩]
def m42r9 : List MOper := [⟨.mv (.tmp 10), none, (some 29), [10]⟩,
  ⟨.bin .geq .other (.tmp 29) (.lit (.int .i64 0)), none, (some 30), [29]⟩]
def m42r10 : List MOper := [⟨.mv (.tmp 0), none, (some 33), [0]⟩,
  ⟨.mv (.tmp 6), none, (some 34), [6]⟩,
  ⟨.mv (.tmp 0), none, (some 35), [0]⟩,
  ⟨.mv (.tmp 6), none, (some 36), [6]⟩,
  ⟨.mv (.tmp 10), none, (some 37), [10]⟩,
  ⟨.bin .add .other (.tmp 36) (.tmp 37), none, (some 38), [36, 37]⟩,
  ⟨.mv (.tmp 0), none, (some 39), [0]⟩,
  ⟨.mv (.tmp 6), none, (some 40), [6]⟩,
  ⟨.mv (.tmp 10), none, (some 41), [10]⟩,
  ⟨.bin .add .other (.tmp 40) (.tmp 41), none, (some 42), [40, 41]⟩,
  ⟨.iaddr 1 (.tmp 39) (.tmp 42), none, (some 43), [39, 42]⟩,
  ⟨.load none (.tmp 43), none, (some 44), [43]⟩,
  ⟨.mv (.tmp 0), none, (some 45), [0]⟩,
  ⟨.mv (.tmp 6), none, (some 46), [6]⟩,
  ⟨.iaddr 1 (.tmp 45) (.tmp 46), none, (some 47), [45, 46]⟩,
  ⟨.load none (.tmp 47), none, (some 48), [47]⟩]
def m42r11 : List MOper := [⟨.iaddr 1 (.tmp 33) (.tmp 34), none, (some 49), [33, 34]⟩,
  ⟨.store 1 (.tmp 49) (.tmp 44), none, none, [49, 44]⟩,
  ⟨.iaddr 1 (.tmp 35) (.tmp 38), none, (some 50), [35, 38]⟩,
  ⟨.store 1 (.tmp 50) (.tmp 48), none, none, [50, 48]⟩]
def m42r12 : List MOper := [⟨.mv (.tmp 0), none, (some 51), [0]⟩,
  ⟨.mv (.tmp 7), none, (some 52), [7]⟩,
  ⟨.mv (.tmp 10), none, (some 53), [10]⟩,
  ⟨.mv (.tmp 6), none, (some 54), [6]⟩,
  ⟨.call 54 [(.tmp 51), (.tmp 52), (.tmp 53), (.tmp 54)], none, (some 55), [51, 52, 53, 54]⟩]
def m42r13 : List MOper := [⟨.mv (.tmp 10), none, (some 31), [10]⟩,
  ⟨.bin .sub .other (.tmp 31) (.lit (.int .i64 1)), none, (some 32), [31]⟩,
  ⟨.mv (.tmp 32), none, (some 10), [32]⟩]
def m42l14 : MCode := (.seq (.seq (.region m42r9 [0, 6, 7, 10, 30])
  (.cond (.tmp 30)
  .skip
  (.exit 2)))
  (.seq (.block 3 (.seq (.dregion m42r10 m42r11 [] [0, 6, 7, 10])
  (.region m42r12 [0, 6, 7, 10])))
  (.region m42r13 [0, 6, 7, 10])))
def m42 : MFunc := ⟨56, [],
  (.seq (.region m42r0 [0, 1, 2, 6])
  (.seq (.region m42r1 [0, 1, 2, 6, 7])
  (.seq (.region m42r2 [0, 6, 7, 8])
  (.seq (.seq (.region m42r3 [0, 6, 7, 8, 9])
  (.block 0 (.loop [0, 6, 7, 8, 9] m42l7)))
  (.seq (.region m42r8 [0, 6, 7, 10])
  (.block 2 (.loop [0, 6, 7, 10] m42l14)))))))⟩
def h42 : List RH := [⟨[0, 1, 2, 6], 0, false, []⟩, ⟨[0, 1, 2, 6, 7], 0, false, []⟩, ⟨[0, 6, 7, 8], 0, false, []⟩, ⟨[0, 6, 7, 8, 9], 0, false, []⟩, ⟨[0, 6, 7, 8, 9], 0, false, []⟩, ⟨[0, 6, 7, 8, 9, 19], 0, false, []⟩, ⟨[0, 6, 7, 8, 9], 0, false, []⟩, ⟨[0, 6, 7, 8, 9], 0, false, []⟩, ⟨[0, 6, 7, 10], 0, false, []⟩, ⟨[0, 6, 7, 10], 0, false, []⟩, ⟨[0, 6, 7, 10, 30], 0, false, []⟩, ⟨[0, 6, 7, 10], 16, false, []⟩, ⟨[0, 6, 7, 10], 0, false, []⟩, ⟨[0, 6, 7, 10], 0, false, []⟩]
theorem m42_ok : cmpFn Try.prog 42 h42 = some m42 := by kernel_rfl

/- slices.breakPatternsOrdered[int] -/
def m43r0 : List MOper := [⟨.mv (.tmp 2), none, (some 11), [2]⟩,
  ⟨.mv (.tmp 1), none, (some 12), [1]⟩,
  ⟨.bin .sub .other (.tmp 11) (.tmp 12), none, (some 13), [11, 12]⟩,
  ⟨.mv (.tmp 13), none, (some 6), [13]⟩]
def m43r1 : List MOper := [⟨.mv (.tmp 6), none, (some 14), [6]⟩,
  ⟨.bin .geq .other (.tmp 14) (.lit (.int .i64 8)), none, (some 15), [14]⟩]
def m43r2 : List MOper := [⟨.mv (.tmp 6), none, (some 16), [6]⟩,
  ⟨.conv .u64 (.tmp 16), none, (some 17), [16]⟩,
  ⟨.zbox [(.int .u64 0)], none, (some 7), []⟩,
  ⟨.store 1 (.tmp 7) (.tmp 17), none, none, [7, 17]⟩]
def m43r3 : List MOper := [⟨.mv (.tmp 6), none, (some 18), [6]⟩,
  ⟨.call 55 [(.tmp 18)], none, (some 19), [18]⟩,
  ⟨.mv (.tmp 19), none, (some 8), [19]⟩]
def m43r4 : List MOper := [⟨.mv (.tmp 1), none, (some 20), [1]⟩,
  ⟨.mv (.tmp 6), none, (some 21), [6]⟩,
  ⟨.bin .quo .other (.tmp 21) (.lit (.int .i64 4)), none, (some 22), [21]⟩,
  ⟨.bin .mul .other (.tmp 22) (.lit (.int .i64 2)), none, (some 23), [22]⟩,
  ⟨.bin .add .other (.tmp 20) (.tmp 23), none, (some 24), [20, 23]⟩,
  ⟨.bin .sub .other (.tmp 24) (.lit (.int .i64 1)), none, (some 25), [24]⟩,
  ⟨.mv (.tmp 25), none, (some 9), [25]⟩]
def m43r5 : List MOper := [⟨.mv (.tmp 9), none, (some 26), [9]⟩,
  ⟨.mv (.tmp 1), none, (some 27), [1]⟩,
  ⟨.mv (.tmp 6), none, (some 28), [6]⟩,
  ⟨.bin .quo .other (.tmp 28) (.lit (.int .i64 4)), none, (some 29), [28]⟩,
  ⟨.bin .mul .other (.tmp 29) (.lit (.int .i64 2)), none, (some 30), [29]⟩,
  ⟨.bin .add .other (.tmp 27) (.tmp 30), none, (some 31), [27, 30]⟩,
  ⟨.bin .add .other (.tmp 31) (.lit (.int .i64 1)), none, (some 32), [31]⟩,
  ⟨.bin .leq .other (.tmp 26) (.tmp 32), none, (some 33), [26, 32]⟩]
def m43r6 : List MOper := [⟨.call 56 [(.tmp 7)], none, (some 36), [7]⟩,
  ⟨.mv (.tmp 8), none, (some 37), [8]⟩,
  ⟨.bin .sub .other (.tmp 37) (.lit (.int .u64 1)), none, (some 38), [37]⟩,
  ⟨.bin .and .other (.tmp 36) (.tmp 38), none, (some 39), [36, 38]⟩,
  ⟨.conv .i64 (.tmp 39), none, (some 40), [39]⟩,
  ⟨.mv (.tmp 40), none, (some 10), [40]⟩]
def m43r7 : List MOper := [⟨.mv (.tmp 10), none, (some 41), [10]⟩,
  ⟨.mv (.tmp 6), none, (some 42), [6]⟩,
  ⟨.bin .geq .other (.tmp 41) (.tmp 42), none, (some 43), [41, 42]⟩]
def m43r8 : List MOper := [⟨.mv (.tmp 10), none, (some 44), [10]⟩,
  ⟨.mv (.tmp 6), none, (some 45), [6]⟩,
  ⟨.bin .sub .other (.tmp 44) (.tmp 45), none, (some 46), [44, 45]⟩,
  ⟨.mv (.tmp 46), none, (some 10), [46]⟩]
def m43r9 : List MOper := [⟨.mv (.tmp 0), none, (some 47), [0]⟩,
  ⟨.mv (.tmp 9), none, (some 48), [9]⟩,
  ⟨.mv (.tmp 0), none, (some 49), [0]⟩,
  ⟨.mv (.tmp 1), none, (some 50), [1]⟩,
  ⟨.mv (.tmp 10), none, (some 51), [10]⟩,
  ⟨.bin .add .other (.tmp 50) (.tmp 51), none, (some 52), [50, 51]⟩,
  ⟨.mv (.tmp 0), none, (some 53), [0]⟩,
  ⟨.mv (.tmp 1), none, (some 54), [1]⟩,
  ⟨.mv (.tmp 10), none, (some 55), [10]⟩,
  ⟨.bin .add .other (.tmp 54) (.tmp 55), none, (some 56), [54, 55]⟩,
  ⟨.iaddr 1 (.tmp 53) (.tmp 56), none, (some 57), [53, 56]⟩,
  ⟨.load none (.tmp 57), none, (some 58), [57]⟩,
  ⟨.mv (.tmp 0), none, (some 59), [0]⟩,
  ⟨.mv (.tmp 9), none, (some 60), [9]⟩,
  ⟨.iaddr 1 (.tmp 59) (.tmp 60), none, (some 61), [59, 60]⟩,
  ⟨.load none (.tmp 61), none, (some 62), [61]⟩]
def m43r10 : List MOper := [⟨.iaddr 1 (.tmp 47) (.tmp 48), none, (some 63), [47, 48]⟩,
  ⟨.store 1 (.tmp 63) (.tmp 58), none, none, [63, 58]⟩,
  ⟨.iaddr 1 (.tmp 49) (.tmp 52), none, (some 64), [49, 52]⟩,
  ⟨.store 1 (.tmp 64) (.tmp 62), none, none, [64, 62]⟩]
def m43r11 : List MOper := [⟨.mv (.tmp 9), none, (some 34), [9]⟩,
  ⟨.bin .add .other (.tmp 34) (.lit (.int .i64 1)), none, (some 35), [34]⟩,
  ⟨.mv (.tmp 35), none, (some 9), [35]⟩]
def m43l12 : MCode := (.seq (.seq (.region m43r5 [0, 1, 6, 7, 8, 9, 33])
  (.cond (.tmp 33)
  .skip
  (.exit 0)))
  (.seq (.block 1 (.seq (.region m43r6 [0, 1, 6, 7, 8, 9, 10])
  (.seq (.seq (.region m43r7 [0, 1, 6, 7, 8, 9, 10, 43])
  (.cond (.tmp 43)
  (.region m43r8 [0, 1, 6, 7, 8, 9, 10])
  .skip))
  (.dregion m43r9 m43r10 [] [0, 1, 6, 7, 8, 9]))))
  (.region m43r11 [0, 1, 6, 7, 8, 9])))
def m43 : MFunc := ⟨65, [],
  (.seq (.region m43r0 [0, 1, 6])
  (.seq (.region m43r1 [0, 1, 6, 15])
  (.cond (.tmp 15)
  (.seq (.region m43r2 [0, 1, 6, 7])
  (.seq (.region m43r3 [0, 1, 6, 7, 8])
  (.seq (.region m43r4 [0, 1, 6, 7, 8, 9])
  (.block 0 (.loop [0, 1, 6, 7, 8, 9] m43l12)))))
  .skip)))⟩
def h43 : List RH := [⟨[0, 1, 6], 0, false, []⟩, ⟨[0, 1, 6, 15], 0, false, []⟩, ⟨[0, 1, 6, 7], 0, false, []⟩, ⟨[0, 1, 6, 7, 8], 0, false, []⟩, ⟨[0, 1, 6, 7, 8, 9], 0, false, []⟩, ⟨[0, 1, 6, 7, 8, 9], 0, false, []⟩, ⟨[0, 1, 6, 7, 8, 9, 33], 0, false, []⟩, ⟨[0, 1, 6, 7, 8, 9, 10], 0, false, []⟩, ⟨[0, 1, 6, 7, 8, 9, 10, 43], 0, false, []⟩, ⟨[0, 1, 6, 7, 8, 9, 10], 0, false, []⟩, ⟨[0, 1, 6, 7, 8, 9], 16, false, []⟩, ⟨[0, 1, 6, 7, 8, 9], 0, false, []⟩]
theorem m43_ok : cmpFn Try.prog 43 h43 = some m43 := by kernel_rfl

/- slices.choosePivotOrdered[int] -/
def m44r0 : List MOper := [⟨.mv (.lit (.int .i64 0)), none, (some 6), []⟩,
  ⟨.mv (.lit (.int .i64 0)), none, (some 7), []⟩]
def m44r1 : List MOper := [⟨.mv (.tmp 2), none, (some 13), [2]⟩,
  ⟨.mv (.tmp 1), none, (some 14), [1]⟩,
  ⟨.bin .sub .other (.tmp 13) (.tmp 14), none, (some 15), [13, 14]⟩,
  ⟨.mv (.tmp 15), none, (some 8), [15]⟩]
def m44r2 : List MOper := [⟨.zbox [(.int .i64 0)], none, (some 9), []⟩]
def m44r3 : List MOper := [⟨.mv (.tmp 1), none, (some 16), [1]⟩,
  ⟨.mv (.tmp 8), none, (some 17), [8]⟩,
  ⟨.bin .quo .other (.tmp 17) (.lit (.int .i64 4)), none, (some 18), [17]⟩,
  ⟨.bin .mul .other (.tmp 18) (.lit (.int .i64 1)), none, (some 19), [18]⟩,
  ⟨.bin .add .other (.tmp 16) (.tmp 19), none, (some 20), [16, 19]⟩,
  ⟨.mv (.tmp 20), none, (some 10), [20]⟩]
def m44r4 : List MOper := [⟨.mv (.tmp 1), none, (some 21), [1]⟩,
  ⟨.mv (.tmp 8), none, (some 22), [8]⟩,
  ⟨.bin .quo .other (.tmp 22) (.lit (.int .i64 4)), none, (some 23), [22]⟩,
  ⟨.bin .mul .other (.tmp 23) (.lit (.int .i64 2)), none, (some 24), [23]⟩,
  ⟨.bin .add .other (.tmp 21) (.tmp 24), none, (some 25), [21, 24]⟩,
  ⟨.mv (.tmp 25), none, (some 11), [25]⟩]
def m44r5 : List MOper := [⟨.mv (.tmp 1), none, (some 26), [1]⟩,
  ⟨.mv (.tmp 8), none, (some 27), [8]⟩,
  ⟨.bin .quo .other (.tmp 27) (.lit (.int .i64 4)), none, (some 28), [27]⟩,
  ⟨.bin .mul .other (.tmp 28) (.lit (.int .i64 3)), none, (some 29), [28]⟩,
  ⟨.bin .add .other (.tmp 26) (.tmp 29), none, (some 30), [26, 29]⟩,
  ⟨.mv (.tmp 30), none, (some 12), [30]⟩]
def m44r6 : List MOper := [⟨.mv (.tmp 8), none, (some 31), [8]⟩,
  ⟨.bin .geq .other (.tmp 31) (.lit (.int .i64 8)), none, (some 32), [31]⟩]
def m44r7 : List MOper := [⟨.mv (.tmp 8), none, (some 33), [8]⟩,
  ⟨.bin .geq .other (.tmp 33) (.lit (.int .i64 50)), none, (some 34), [33]⟩]
def m44r8 : List MOper := [⟨.mv (.tmp 0), none, (some 35), [0]⟩,
  ⟨.mv (.tmp 10), none, (some 36), [10]⟩,
  ⟨.call 57 [(.tmp 35), (.tmp 36), (.tmp 9)], none, (some 37), [35, 36, 9]⟩,
  ⟨.mv (.tmp 37), none, (some 10), [37]⟩]
def m44r9 : List MOper := [⟨.mv (.tmp 0), none, (some 38), [0]⟩,
  ⟨.mv (.tmp 11), none, (some 39), [11]⟩,
  ⟨.call 57 [(.tmp 38), (.tmp 39), (.tmp 9)], none, (some 40), [38, 39, 9]⟩,
  ⟨.mv (.tmp 40), none, (some 11), [40]⟩]
def m44r10 : List MOper := [⟨.mv (.tmp 0), none, (some 41), [0]⟩,
  ⟨.mv (.tmp 12), none, (some 42), [12]⟩,
  ⟨.call 57 [(.tmp 41), (.tmp 42), (.tmp 9)], none, (some 43), [41, 42, 9]⟩,
  ⟨.mv (.tmp 43), none, (some 12), [43]⟩]
def m44r11 : List MOper := [⟨.mv (.tmp 0), none, (some 44), [0]⟩,
  ⟨.mv (.tmp 10), none, (some 45), [10]⟩,
  ⟨.mv (.tmp 11), none, (some 46), [11]⟩,
  ⟨.mv (.tmp 12), none, (some 47), [12]⟩,
  ⟨.call 58 [(.tmp 44), (.tmp 45), (.tmp 46), (.tmp 47), (.tmp 9)], none, (some 48), [44, 45, 46, 47, 9]⟩,
  ⟨.mv (.tmp 48), none, (some 11), [48]⟩]
def m44r12 : List MOper := [⟨.load none (.tmp 9), none, (some 49), [9]⟩]
def m44r13 : List MOper := [⟨.bin .eql .other (.tmp 49) (.lit (.int .i64 0)), none, (some 52), [49]⟩,
  ⟨.mv (.tmp 52), none, (some 51), [52]⟩]
def m44r14 : List MOper := [⟨.mv (.tmp 11), none, (some 53), [11]⟩,
  ⟨.mv (.tmp 53), none, (some 6), [53]⟩,
  ⟨.mv (.lit (.int .i64 1)), none, (some 7), []⟩]
def m44r15 : List MOper := [⟨.bin .eql .other (.tmp 49) (.lit (.int .i64 12)), none, (some 55), [49]⟩,
  ⟨.mv (.tmp 55), none, (some 54), [55]⟩]
def m44r16 : List MOper := [⟨.mv (.tmp 11), none, (some 56), [11]⟩,
  ⟨.mv (.tmp 56), none, (some 6), [56]⟩,
  ⟨.mv (.lit (.int .i64 2)), none, (some 7), []⟩]
def m44r17 : List MOper := [⟨.mv (.tmp 11), none, (some 50), [11]⟩,
  ⟨.mv (.tmp 50), none, (some 6), [50]⟩,
  ⟨.mv (.lit (.int .i64 0)), none, (some 7), []⟩]
def m44 : MFunc := ⟨57, [.tmp 6, .tmp 7],
  (.seq (.region m44r0 [0, 1, 2])
  (.seq (.region m44r1 [0, 1, 8])
  (.seq (.region m44r2 [0, 1, 8, 9])
  (.seq (.region m44r3 [0, 1, 8, 9, 10])
  (.seq (.region m44r4 [0, 1, 8, 9, 10, 11])
  (.seq (.region m44r5 [0, 8, 9, 10, 11, 12])
  (.seq (.seq (.region m44r6 [0, 8, 9, 10, 11, 12, 32])
  (.cond (.tmp 32)
  (.seq (.seq (.region m44r7 [0, 9, 10, 11, 12, 34])
  (.cond (.tmp 34)
  (.seq (.region m44r8 [0, 9, 10, 11, 12])
  (.seq (.region m44r9 [0, 9, 10, 11, 12])
  (.region m44r10 [0, 9, 10, 11, 12])))
  .skip))
  (.region m44r11 [9, 11]))
  .skip))
  (.seq (.region m44r12 [11, 49])
  (.block 0 (.seq (.region m44r13 [11, 49, 51])
  (.cond (.tmp 51)
  (.seq (.region m44r14 [6, 7])
  .ret)
  (.seq (.region m44r15 [11, 54])
  (.cond (.tmp 54)
  (.seq (.region m44r16 [6, 7])
  .ret)
  (.seq (.region m44r17 [6, 7])
  .ret))))))))))))))⟩
def h44 : List RH := [⟨[0, 1, 2], 0, false, []⟩, ⟨[0, 1, 8], 0, false, []⟩, ⟨[0, 1, 8, 9], 0, false, []⟩, ⟨[0, 1, 8, 9, 10], 0, false, []⟩, ⟨[0, 1, 8, 9, 10, 11], 0, false, []⟩, ⟨[0, 8, 9, 10, 11, 12], 0, false, []⟩, ⟨[0, 8, 9, 10, 11, 12, 32], 0, false, []⟩, ⟨[0, 9, 10, 11, 12, 34], 0, false, []⟩, ⟨[0, 9, 10, 11, 12], 0, false, []⟩, ⟨[0, 9, 10, 11, 12], 0, false, []⟩, ⟨[0, 9, 10, 11, 12], 0, false, []⟩, ⟨[9, 11], 0, false, []⟩, ⟨[11, 49], 0, false, []⟩, ⟨[11, 49, 51], 0, false, []⟩, ⟨[6, 7], 0, false, []⟩, ⟨[11, 54], 0, false, []⟩, ⟨[6, 7], 0, false, []⟩, ⟨[6, 7], 0, false, []⟩]
theorem m44_ok : cmpFn Try.prog 44 h44 = some m44 := by kernel_rfl

/- slices.reverseRangeOrdered[int] -/
def m45r0 : List MOper := [⟨.mv (.tmp 1), none, (some 8), [1]⟩,
  ⟨.mv (.tmp 8), none, (some 6), [8]⟩]
def m45r1 : List MOper := [⟨.mv (.tmp 2), none, (some 9), [2]⟩,
  ⟨.bin .sub .other (.tmp 9) (.lit (.int .i64 1)), none, (some 10), [9]⟩,
  ⟨.mv (.tmp 10), none, (some 7), [10]⟩]
def m45r2 : List MOper := [⟨.mv (.tmp 6), none, (some 11), [6]⟩,
  ⟨.mv (.tmp 7), none, (some 12), [7]⟩,
  ⟨.bin .lss .other (.tmp 11) (.tmp 12), none, (some 13), [11, 12]⟩]
def m45r3 : List MOper := [⟨.mv (.tmp 0), none, (some 14), [0]⟩,
  ⟨.mv (.tmp 6), none, (some 15), [6]⟩,
  ⟨.mv (.tmp 0), none, (some 16), [0]⟩,
  ⟨.mv (.tmp 7), none, (some 17), [7]⟩,
  ⟨.mv (.tmp 0), none, (some 18), [0]⟩,
  ⟨.mv (.tmp 7), none, (some 19), [7]⟩,
  ⟨.iaddr 1 (.tmp 18) (.tmp 19), none, (some 20), [18, 19]⟩,
  ⟨.load none (.tmp 20), none, (some 21), [20]⟩,
  ⟨.mv (.tmp 0), none, (some 22), [0]⟩,
  ⟨.mv (.tmp 6), none, (some 23), [6]⟩,
  ⟨.iaddr 1 (.tmp 22) (.tmp 23), none, (some 24), [22, 23]⟩,
  ⟨.load none (.tmp 24), none, (some 25), [24]⟩]
def m45r4 : List MOper := [⟨.iaddr 1 (.tmp 14) (.tmp 15), none, (some 26), [14, 15]⟩,
  ⟨.store 1 (.tmp 26) (.tmp 21), none, none, [26, 21]⟩,
  ⟨.iaddr 1 (.tmp 16) (.tmp 17), none, (some 27), [16, 17]⟩,
  ⟨.store 1 (.tmp 27) (.tmp 25), none, none, [27, 25]⟩]
def m45r5 : List MOper := [⟨.mv (.tmp 6), none, (some 28), [6]⟩,
  ⟨.bin .add .other (.tmp 28) (.lit (.int .i64 1)), none, (some 29), [28]⟩,
  ⟨.mv (.tmp 29), none, (some 6), [29]⟩]
def m45r6 : List MOper := [⟨.mv (.tmp 7), none, (some 30), [7]⟩,
  ⟨.bin .sub .other (.tmp 30) (.lit (.int .i64 1)), none, (some 31), [30]⟩,
  ⟨.mv (.tmp 31), none, (some 7), [31]⟩]
def m45l7 : MCode := (.seq (.seq (.region m45r2 [0, 6, 7, 13])
  (.cond (.tmp 13)
  .skip
  (.exit 0)))
  (.block 1 (.seq (.dregion m45r3 m45r4 [] [0, 6, 7])
  (.seq (.region m45r5 [0, 6, 7])
  (.region m45r6 [0, 6, 7])))))
def m45 : MFunc := ⟨32, [],
  (.seq (.region m45r0 [0, 2, 6])
  (.seq (.region m45r1 [0, 6, 7])
  (.block 0 (.loop [0, 6, 7] m45l7))))⟩
def h45 : List RH := [⟨[0, 2, 6], 0, false, []⟩, ⟨[0, 6, 7], 0, false, []⟩, ⟨[0, 6, 7], 0, false, []⟩, ⟨[0, 6, 7, 13], 0, false, []⟩, ⟨[0, 6, 7], 12, false, []⟩, ⟨[0, 6, 7], 0, false, []⟩, ⟨[0, 6, 7], 0, false, []⟩]
theorem m45_ok : cmpFn Try.prog 45 h45 = some m45 := by kernel_rfl

/- slices.partialInsertionSortOrdered[int] -/
def m46r0 : List MOper := [⟨.mv (.lit (.bool false)), none, (some 6), []⟩]
def m46r1 : List MOper := [⟨.mv (.tmp 1), none, (some 11), [1]⟩,
  ⟨.bin .add .other (.tmp 11) (.lit (.int .i64 1)), none, (some 12), [11]⟩,
  ⟨.mv (.tmp 12), none, (some 7), [12]⟩]
def m46r2 : List MOper := [⟨.mv (.lit (.int .i64 0)), none, (some 8), []⟩]
def m46r3 : List MOper := [⟨.mv (.tmp 8), none, (some 13), [8]⟩,
  ⟨.bin .lss .other (.tmp 13) (.lit (.int .i64 5)), none, (some 14), [13]⟩]
def m46r4 : List MOper := [⟨.mv (.tmp 7), none, (some 17), [7]⟩,
  ⟨.mv (.tmp 2), none, (some 18), [2]⟩,
  ⟨.bin .lss .other (.tmp 17) (.tmp 18), none, (some 19), [17, 18]⟩,
  ⟨.mv (.tmp 19), none, (some 20), [19]⟩,
  ⟨.mv (.tmp 0), (some (20, true)), (some 21), [0]⟩,
  ⟨.mv (.tmp 7), (some (20, true)), (some 22), [7]⟩,
  ⟨.iaddr 1 (.tmp 21) (.tmp 22), (some (20, true)), (some 23), [21, 22]⟩,
  ⟨.load none (.tmp 23), (some (20, true)), (some 24), [23]⟩,
  ⟨.mv (.tmp 0), (some (20, true)), (some 25), [0]⟩,
  ⟨.mv (.tmp 7), (some (20, true)), (some 26), [7]⟩,
  ⟨.bin .sub .other (.tmp 26) (.lit (.int .i64 1)), (some (20, true)), (some 27), [26]⟩,
  ⟨.iaddr 1 (.tmp 25) (.tmp 27), (some (20, true)), (some 28), [25, 27]⟩,
  ⟨.load none (.tmp 28), (some (20, true)), (some 29), [28]⟩]
def m46r5 : List MOper := [⟨.call 47 [(.tmp 24), (.tmp 29)], (some (20, true)), (some 30), [24, 29]⟩,
  ⟨.un .not (.tmp 30), (some (20, true)), (some 31), [30]⟩,
  ⟨.pick (.tmp 20) (.tmp 31) (.lit (.bool false)), none, (some 32), [20, 31]⟩]
def m46r6 : List MOper := [⟨.mv (.tmp 7), none, (some 33), [7]⟩,
  ⟨.bin .add .other (.tmp 33) (.lit (.int .i64 1)), none, (some 34), [33]⟩,
  ⟨.mv (.tmp 34), none, (some 7), [34]⟩]
def m46l7 : MCode := (.seq (.seq (.dregion m46r4 m46r5 [] [0, 1, 2, 7, 8, 32])
  (.cond (.tmp 32)
  .skip
  (.exit 2)))
  (.block 3 (.region m46r6 [0, 1, 2, 7, 8])))
def m46r8 : List MOper := [⟨.mv (.tmp 7), none, (some 35), [7]⟩,
  ⟨.mv (.tmp 2), none, (some 36), [2]⟩,
  ⟨.bin .eql .other (.tmp 35) (.tmp 36), none, (some 37), [35, 36]⟩]
def m46r9 : List MOper := [⟨.mv (.lit (.bool true)), none, (some 6), []⟩]
def m46r10 : List MOper := [⟨.mv (.tmp 2), none, (some 38), [2]⟩,
  ⟨.mv (.tmp 1), none, (some 39), [1]⟩,
  ⟨.bin .sub .other (.tmp 38) (.tmp 39), none, (some 40), [38, 39]⟩,
  ⟨.bin .lss .other (.tmp 40) (.lit (.int .i64 50)), none, (some 41), [40]⟩]
def m46r11 : List MOper := [⟨.mv (.lit (.bool false)), none, (some 6), []⟩]
def m46r12 : List MOper := [⟨.mv (.tmp 0), none, (some 42), [0]⟩,
  ⟨.mv (.tmp 7), none, (some 43), [7]⟩,
  ⟨.mv (.tmp 0), none, (some 44), [0]⟩,
  ⟨.mv (.tmp 7), none, (some 45), [7]⟩,
  ⟨.bin .sub .other (.tmp 45) (.lit (.int .i64 1)), none, (some 46), [45]⟩,
  ⟨.mv (.tmp 0), none, (some 47), [0]⟩,
  ⟨.mv (.tmp 7), none, (some 48), [7]⟩,
  ⟨.bin .sub .other (.tmp 48) (.lit (.int .i64 1)), none, (some 49), [48]⟩,
  ⟨.iaddr 1 (.tmp 47) (.tmp 49), none, (some 50), [47, 49]⟩,
  ⟨.load none (.tmp 50), none, (some 51), [50]⟩,
  ⟨.mv (.tmp 0), none, (some 52), [0]⟩,
  ⟨.mv (.tmp 7), none, (some 53), [7]⟩,
  ⟨.iaddr 1 (.tmp 52) (.tmp 53), none, (some 54), [52, 53]⟩,
  ⟨.load none (.tmp 54), none, (some 55), [54]⟩]
def m46r13 : List MOper := [⟨.iaddr 1 (.tmp 42) (.tmp 43), none, (some 56), [42, 43]⟩,
  ⟨.store 1 (.tmp 56) (.tmp 51), none, none, [56, 51]⟩,
  ⟨.iaddr 1 (.tmp 44) (.tmp 46), none, (some 57), [44, 46]⟩,
  ⟨.store 1 (.tmp 57) (.tmp 55), none, none, [57, 55]⟩]
def m46r14 : List MOper := [⟨.mv (.tmp 7), none, (some 58), [7]⟩,
  ⟨.mv (.tmp 1), none, (some 59), [1]⟩,
  ⟨.bin .sub .other (.tmp 58) (.tmp 59), none, (some 60), [58, 59]⟩,
  ⟨.bin .geq .other (.tmp 60) (.lit (.int .i64 2)), none, (some 61), [60]⟩]
def m46r15 : List MOper := [⟨.mv (.tmp 7), none, (some 62), [7]⟩,
  ⟨.bin .sub .other (.tmp 62) (.lit (.int .i64 1)), none, (some 63), [62]⟩,
  ⟨.mv (.tmp 63), none, (some 9), [63]⟩]
def m46r16 : List MOper := [⟨.mv (.tmp 9), none, (some 64), [9]⟩,
  ⟨.bin .geq .other (.tmp 64) (.lit (.int .i64 1)), none, (some 65), [64]⟩]
def m46r17 : List MOper := [⟨.mv (.tmp 0), none, (some 68), [0]⟩,
  ⟨.mv (.tmp 9), none, (some 69), [9]⟩,
  ⟨.iaddr 1 (.tmp 68) (.tmp 69), none, (some 70), [68, 69]⟩,
  ⟨.load none (.tmp 70), none, (some 71), [70]⟩,
  ⟨.mv (.tmp 0), none, (some 72), [0]⟩,
  ⟨.mv (.tmp 9), none, (some 73), [9]⟩,
  ⟨.bin .sub .other (.tmp 73) (.lit (.int .i64 1)), none, (some 74), [73]⟩,
  ⟨.iaddr 1 (.tmp 72) (.tmp 74), none, (some 75), [72, 74]⟩,
  ⟨.load none (.tmp 75), none, (some 76), [75]⟩]
def m46r18 : List MOper := [⟨.call 47 [(.tmp 71), (.tmp 76)], none, (some 77), [71, 76]⟩,
  ⟨.un .not (.tmp 77), none, (some 78), [77]⟩]
def m46r19 : List MOper := [⟨.mv (.tmp 0), none, (some 79), [0]⟩,
  ⟨.mv (.tmp 9), none, (some 80), [9]⟩,
  ⟨.mv (.tmp 0), none, (some 81), [0]⟩,
  ⟨.mv (.tmp 9), none, (some 82), [9]⟩,
  ⟨.bin .sub .other (.tmp 82) (.lit (.int .i64 1)), none, (some 83), [82]⟩,
  ⟨.mv (.tmp 0), none, (some 84), [0]⟩,
  ⟨.mv (.tmp 9), none, (some 85), [9]⟩,
  ⟨.bin .sub .other (.tmp 85) (.lit (.int .i64 1)), none, (some 86), [85]⟩,
  ⟨.iaddr 1 (.tmp 84) (.tmp 86), none, (some 87), [84, 86]⟩,
  ⟨.load none (.tmp 87), none, (some 88), [87]⟩,
  ⟨.mv (.tmp 0), none, (some 89), [0]⟩,
  ⟨.mv (.tmp 9), none, (some 90), [9]⟩,
  ⟨.iaddr 1 (.tmp 89) (.tmp 90), none, (some 91), [89, 90]⟩,
  ⟨.load none (.tmp 91), none, (some 92), [91]⟩]
def m46r20 : List MOper := [⟨.iaddr 1 (.tmp 79) (.tmp 80), none, (some 93), [79, 80]⟩,
  ⟨.store 1 (.tmp 93) (.tmp 88), none, none, [93, 88]⟩,
  ⟨.iaddr 1 (.tmp 81) (.tmp 83), none, (some 94), [81, 83]⟩,
  ⟨.store 1 (.tmp 94) (.tmp 92), none, none, [94, 92]⟩]
def m46r21 : List MOper := [⟨.mv (.tmp 9), none, (some 66), [9]⟩,
  ⟨.bin .sub .other (.tmp 66) (.lit (.int .i64 1)), none, (some 67), [66]⟩,
  ⟨.mv (.tmp 67), none, (some 9), [67]⟩]
def m46l22 : MCode := (.seq (.seq (.region m46r16 [0, 1, 2, 7, 8, 9, 65])
  (.cond (.tmp 65)
  .skip
  (.exit 4)))
  (.seq (.block 5 (.seq (.seq (.dregion m46r17 m46r18 [] [0, 1, 2, 7, 8, 9, 78])
  (.cond (.tmp 78)
  (.exit 4)
  .skip))
  (.dregion m46r19 m46r20 [] [0, 1, 2, 7, 8, 9])))
  (.region m46r21 [0, 1, 2, 7, 8, 9])))
def m46r23 : List MOper := [⟨.mv (.tmp 2), none, (some 95), [2]⟩,
  ⟨.mv (.tmp 7), none, (some 96), [7]⟩,
  ⟨.bin .sub .other (.tmp 95) (.tmp 96), none, (some 97), [95, 96]⟩,
  ⟨.bin .geq .other (.tmp 97) (.lit (.int .i64 2)), none, (some 98), [97]⟩]
def m46r24 : List MOper := [⟨.mv (.tmp 7), none, (some 99), [7]⟩,
  ⟨.bin .add .other (.tmp 99) (.lit (.int .i64 1)), none, (some 100), [99]⟩,
  ⟨.mv (.tmp 100), none, (some 10), [100]⟩]
def m46r25 : List MOper := [⟨.mv (.tmp 10), none, (some 101), [10]⟩,
  ⟨.mv (.tmp 2), none, (some 102), [2]⟩,
  ⟨.bin .lss .other (.tmp 101) (.tmp 102), none, (some 103), [101, 102]⟩]
def m46r26 : List MOper := [⟨.mv (.tmp 0), none, (some 106), [0]⟩,
  ⟨.mv (.tmp 10), none, (some 107), [10]⟩,
  ⟨.iaddr 1 (.tmp 106) (.tmp 107), none, (some 108), [106, 107]⟩,
  ⟨.load none (.tmp 108), none, (some 109), [108]⟩,
  ⟨.mv (.tmp 0), none, (some 110), [0]⟩,
  ⟨.mv (.tmp 10), none, (some 111), [10]⟩,
  ⟨.bin .sub .other (.tmp 111) (.lit (.int .i64 1)), none, (some 112), [111]⟩,
  ⟨.iaddr 1 (.tmp 110) (.tmp 112), none, (some 113), [110, 112]⟩,
  ⟨.load none (.tmp 113), none, (some 114), [113]⟩]
def m46r27 : List MOper := [⟨.call 47 [(.tmp 109), (.tmp 114)], none, (some 115), [109, 114]⟩,
  ⟨.un .not (.tmp 115), none, (some 116), [115]⟩]
def m46r28 : List MOper := [⟨.mv (.tmp 0), none, (some 117), [0]⟩,
  ⟨.mv (.tmp 10), none, (some 118), [10]⟩,
  ⟨.mv (.tmp 0), none, (some 119), [0]⟩,
  ⟨.mv (.tmp 10), none, (some 120), [10]⟩,
  ⟨.bin .sub .other (.tmp 120) (.lit (.int .i64 1)), none, (some 121), [120]⟩,
  ⟨.mv (.tmp 0), none, (some 122), [0]⟩,
  ⟨.mv (.tmp 10), none, (some 123), [10]⟩,
  ⟨.bin .sub .other (.tmp 123) (.lit (.int .i64 1)), none, (some 124), [123]⟩,
  ⟨.iaddr 1 (.tmp 122) (.tmp 124), none, (some 125), [122, 124]⟩,
  ⟨.load none (.tmp 125), none, (some 126), [125]⟩,
  ⟨.mv (.tmp 0), none, (some 127), [0]⟩,
  ⟨.mv (.tmp 10), none, (some 128), [10]⟩,
  ⟨.iaddr 1 (.tmp 127) (.tmp 128), none, (some 129), [127, 128]⟩,
  ⟨.load none (.tmp 129), none, (some 130), [129]⟩]
def m46r29 : List MOper := [⟨.iaddr 1 (.tmp 117) (.tmp 118), none, (some 131), [117, 118]⟩,
  ⟨.store 1 (.tmp 131) (.tmp 126), none, none, [131, 126]⟩,
  ⟨.iaddr 1 (.tmp 119) (.tmp 121), none, (some 132), [119, 121]⟩,
  ⟨.store 1 (.tmp 132) (.tmp 130), none, none, [132, 130]⟩]
def m46r30 : List MOper := [⟨.mv (.tmp 10), none, (some 104), [10]⟩,
  ⟨.bin .add .other (.tmp 104) (.lit (.int .i64 1)), none, (some 105), [104]⟩,
  ⟨.mv (.tmp 105), none, (some 10), [105]⟩]
def m46l31 : MCode := (.seq (.seq (.region m46r25 [0, 1, 2, 7, 8, 10, 103])
  (.cond (.tmp 103)
  .skip
  (.exit 6)))
  (.seq (.block 7 (.seq (.seq (.dregion m46r26 m46r27 [] [0, 1, 2, 7, 8, 10, 116])
  (.cond (.tmp 116)
  (.exit 6)
  .skip))
  (.dregion m46r28 m46r29 [] [0, 1, 2, 7, 8, 10])))
  (.region m46r30 [0, 1, 2, 7, 8, 10])))
def m46r32 : List MOper := [⟨.mv (.tmp 8), none, (some 15), [8]⟩,
  ⟨.bin .add .other (.tmp 15) (.lit (.int .i64 1)), none, (some 16), [15]⟩,
  ⟨.mv (.tmp 16), none, (some 8), [16]⟩]
def m46l33 : MCode := (.seq (.seq (.region m46r3 [0, 1, 2, 7, 8, 14])
  (.cond (.tmp 14)
  .skip
  (.exit 0)))
  (.seq (.block 1 (.seq (.block 2 (.loop [0, 1, 2, 7, 8] m46l7))
  (.seq (.seq (.region m46r8 [0, 1, 2, 7, 8, 37])
  (.cond (.tmp 37)
  (.seq (.region m46r9 [6])
  .ret)
  .skip))
  (.seq (.seq (.region m46r10 [0, 1, 2, 7, 8, 41])
  (.cond (.tmp 41)
  (.seq (.region m46r11 [6])
  .ret)
  .skip))
  (.seq (.dregion m46r12 m46r13 [] [0, 1, 2, 7, 8])
  (.seq (.seq (.region m46r14 [0, 1, 2, 7, 8, 61])
  (.cond (.tmp 61)
  (.seq (.region m46r15 [0, 1, 2, 7, 8, 9])
  (.block 4 (.loop [0, 1, 2, 7, 8, 9] m46l22)))
  .skip))
  (.seq (.region m46r23 [0, 1, 2, 7, 8, 98])
  (.cond (.tmp 98)
  (.seq (.region m46r24 [0, 1, 2, 7, 8, 10])
  (.block 6 (.loop [0, 1, 2, 7, 8, 10] m46l31)))
  .skip))))))))
  (.region m46r32 [0, 1, 2, 7, 8])))
def m46r34 : List MOper := [⟨.mv (.lit (.bool false)), none, (some 6), []⟩]
def m46 : MFunc := ⟨133, [.tmp 6],
  (.seq (.region m46r0 [0, 1, 2])
  (.seq (.region m46r1 [0, 1, 2, 7])
  (.seq (.seq (.region m46r2 [0, 1, 2, 7, 8])
  (.block 0 (.loop [0, 1, 2, 7, 8] m46l33)))
  (.seq (.region m46r34 [6])
  .ret))))⟩
def h46 : List RH := [⟨[0, 1, 2], 0, false, []⟩, ⟨[0, 1, 2, 7], 0, false, []⟩, ⟨[0, 1, 2, 7, 8], 0, false, []⟩, ⟨[0, 1, 2, 7, 8], 0, false, []⟩, ⟨[0, 1, 2, 7, 8, 14], 0, false, []⟩, ⟨[0, 1, 2, 7, 8], 0, false, []⟩, ⟨[0, 1, 2, 7, 8, 32], 13, false, []⟩, ⟨[0, 1, 2, 7, 8], 0, false, []⟩, ⟨[0, 1, 2, 7, 8, 37], 0, false, []⟩, ⟨[6], 0, false, []⟩, ⟨[0, 1, 2, 7, 8, 41], 0, false, []⟩, ⟨[6], 0, false, []⟩, ⟨[0, 1, 2, 7, 8], 14, false, []⟩, ⟨[0, 1, 2, 7, 8, 61], 0, false, []⟩, ⟨[0, 1, 2, 7, 8, 9], 0, false, []⟩, ⟨[0, 1, 2, 7, 8, 9], 0, false, []⟩, ⟨[0, 1, 2, 7, 8, 9, 65], 0, false, []⟩, ⟨[0, 1, 2, 7, 8, 9, 78], 9, false, []⟩, ⟨[0, 1, 2, 7, 8, 9], 14, false, []⟩, ⟨[0, 1, 2, 7, 8, 9], 0, false, []⟩, ⟨[0, 1, 2, 7, 8, 98], 0, false, []⟩, ⟨[0, 1, 2, 7, 8, 10], 0, false, []⟩, ⟨[0, 1, 2, 7, 8, 10], 0, false, []⟩, ⟨[0, 1, 2, 7, 8, 10, 103], 0, false, []⟩, ⟨[0, 1, 2, 7, 8, 10, 116], 9, false, []⟩, ⟨[0, 1, 2, 7, 8, 10], 14, false, []⟩, ⟨[0, 1, 2, 7, 8, 10], 0, false, []⟩, ⟨[0, 1, 2, 7, 8], 0, false, []⟩, ⟨[6], 0, false, []⟩]
theorem m46_ok : cmpFn Try.prog 46 h46 = some m46 := by kernel_rfl

/- cmp.Less[int] -/
def m47r0 : List MOper := [⟨.mv (.lit (.bool false)), none, (some 4), []⟩]
def m47r1 : List MOper := [⟨.mv (.tmp 0), none, (some 5), [0]⟩,
  ⟨.call 59 [(.tmp 5)], none, (some 6), [5]⟩,
  ⟨.mv (.tmp 6), none, (some 7), [6]⟩,
  ⟨.mv (.tmp 1), (some (7, true)), (some 8), [1]⟩,
  ⟨.call 59 [(.tmp 8)], (some (7, true)), (some 9), [8]⟩,
  ⟨.un .not (.tmp 9), (some (7, true)), (some 10), [9]⟩,
  ⟨.pick (.tmp 7) (.tmp 10) (.lit (.bool false)), none, (some 11), [7, 10]⟩,
  ⟨.mv (.tmp 11), none, (some 12), [11]⟩,
  ⟨.mv (.tmp 0), (some (12, false)), (some 13), [0]⟩,
  ⟨.mv (.tmp 1), (some (12, false)), (some 14), [1]⟩,
  ⟨.bin .lss .other (.tmp 13) (.tmp 14), (some (12, false)), (some 15), [13, 14]⟩,
  ⟨.pick (.tmp 12) (.lit (.bool true)) (.tmp 15), none, (some 16), [12, 15]⟩,
  ⟨.mv (.tmp 16), none, (some 4), [16]⟩]
def m47 : MFunc := ⟨17, [.tmp 4],
  (.seq (.region m47r0 [0, 1])
  (.seq (.region m47r1 [4])
  .ret))⟩
def h47 : List RH := [⟨[0, 1], 0, false, []⟩, ⟨[4], 0, false, []⟩]
theorem m47_ok : cmpFn Try.prog 47 h47 = some m47 := by kernel_rfl

/- slices.partitionEqualOrdered[int] -/
def m48r0 : List MOper := [⟨.mv (.lit (.int .i64 0)), none, (some 8), []⟩]
def m48r1 : List MOper := [⟨.mv (.tmp 0), none, (some 11), [0]⟩,
  ⟨.mv (.tmp 1), none, (some 12), [1]⟩,
  ⟨.mv (.tmp 0), none, (some 13), [0]⟩,
  ⟨.mv (.tmp 3), none, (some 14), [3]⟩,
  ⟨.mv (.tmp 0), none, (some 15), [0]⟩,
  ⟨.mv (.tmp 3), none, (some 16), [3]⟩,
  ⟨.iaddr 1 (.tmp 15) (.tmp 16), none, (some 17), [15, 16]⟩,
  ⟨.load none (.tmp 17), none, (some 18), [17]⟩,
  ⟨.mv (.tmp 0), none, (some 19), [0]⟩,
  ⟨.mv (.tmp 1), none, (some 20), [1]⟩,
  ⟨.iaddr 1 (.tmp 19) (.tmp 20), none, (some 21), [19, 20]⟩,
  ⟨.load none (.tmp 21), none, (some 22), [21]⟩]
def m48r2 : List MOper := [⟨.iaddr 1 (.tmp 11) (.tmp 12), none, (some 23), [11, 12]⟩,
  ⟨.store 1 (.tmp 23) (.tmp 18), none, none, [23, 18]⟩,
  ⟨.iaddr 1 (.tmp 13) (.tmp 14), none, (some 24), [13, 14]⟩,
  ⟨.store 1 (.tmp 24) (.tmp 22), none, none, [24, 22]⟩]
def m48r3 : List MOper := [⟨.mv (.tmp 1), none, (some 25), [1]⟩,
  ⟨.bin .add .other (.tmp 25) (.lit (.int .i64 1)), none, (some 26), [25]⟩,
  ⟨.mv (.tmp 2), none, (some 27), [2]⟩,
  ⟨.bin .sub .other (.tmp 27) (.lit (.int .i64 1)), none, (some 28), [27]⟩,
  ⟨.mv (.tmp 26), none, (some 9), [26]⟩,
  ⟨.mv (.tmp 28), none, (some 10), [28]⟩]
def m48r4 : List MOper := [⟨.mv (.tmp 9), none, (some 29), [9]⟩,
  ⟨.mv (.tmp 10), none, (some 30), [10]⟩,
  ⟨.bin .leq .other (.tmp 29) (.tmp 30), none, (some 31), [29, 30]⟩,
  ⟨.mv (.tmp 31), none, (some 32), [31]⟩,
  ⟨.mv (.tmp 0), (some (32, true)), (some 33), [0]⟩,
  ⟨.mv (.tmp 1), (some (32, true)), (some 34), [1]⟩,
  ⟨.iaddr 1 (.tmp 33) (.tmp 34), (some (32, true)), (some 35), [33, 34]⟩,
  ⟨.load none (.tmp 35), (some (32, true)), (some 36), [35]⟩,
  ⟨.mv (.tmp 0), (some (32, true)), (some 37), [0]⟩,
  ⟨.mv (.tmp 9), (some (32, true)), (some 38), [9]⟩,
  ⟨.iaddr 1 (.tmp 37) (.tmp 38), (some (32, true)), (some 39), [37, 38]⟩,
  ⟨.load none (.tmp 39), (some (32, true)), (some 40), [39]⟩]
def m48r5 : List MOper := [⟨.call 47 [(.tmp 36), (.tmp 40)], (some (32, true)), (some 41), [36, 40]⟩,
  ⟨.un .not (.tmp 41), (some (32, true)), (some 42), [41]⟩,
  ⟨.pick (.tmp 32) (.tmp 42) (.lit (.bool false)), none, (some 43), [32, 42]⟩]
def m48r6 : List MOper := [⟨.mv (.tmp 9), none, (some 44), [9]⟩,
  ⟨.bin .add .other (.tmp 44) (.lit (.int .i64 1)), none, (some 45), [44]⟩,
  ⟨.mv (.tmp 45), none, (some 9), [45]⟩]
def m48l7 : MCode := (.seq (.seq (.dregion m48r4 m48r5 [] [0, 1, 9, 10, 43])
  (.cond (.tmp 43)
  .skip
  (.exit 2)))
  (.block 3 (.region m48r6 [0, 1, 9, 10])))
def m48r8 : List MOper := [⟨.mv (.tmp 9), none, (some 46), [9]⟩,
  ⟨.mv (.tmp 10), none, (some 47), [10]⟩,
  ⟨.bin .leq .other (.tmp 46) (.tmp 47), none, (some 48), [46, 47]⟩,
  ⟨.mv (.tmp 48), none, (some 49), [48]⟩,
  ⟨.mv (.tmp 0), (some (49, true)), (some 50), [0]⟩,
  ⟨.mv (.tmp 1), (some (49, true)), (some 51), [1]⟩,
  ⟨.iaddr 1 (.tmp 50) (.tmp 51), (some (49, true)), (some 52), [50, 51]⟩,
  ⟨.load none (.tmp 52), (some (49, true)), (some 53), [52]⟩,
  ⟨.mv (.tmp 0), (some (49, true)), (some 54), [0]⟩,
  ⟨.mv (.tmp 10), (some (49, true)), (some 55), [10]⟩,
  ⟨.iaddr 1 (.tmp 54) (.tmp 55), (some (49, true)), (some 56), [54, 55]⟩,
  ⟨.load none (.tmp 56), (some (49, true)), (some 57), [56]⟩]
def m48r9 : List MOper := [⟨.call 47 [(.tmp 53), (.tmp 57)], (some (49, true)), (some 58), [53, 57]⟩,
  ⟨.pick (.tmp 49) (.tmp 58) (.lit (.bool false)), none, (some 59), [49, 58]⟩]
def m48r10 : List MOper := [⟨.mv (.tmp 10), none, (some 60), [10]⟩,
  ⟨.bin .sub .other (.tmp 60) (.lit (.int .i64 1)), none, (some 61), [60]⟩,
  ⟨.mv (.tmp 61), none, (some 10), [61]⟩]
def m48l11 : MCode := (.seq (.seq (.dregion m48r8 m48r9 [] [0, 1, 9, 10, 59])
  (.cond (.tmp 59)
  .skip
  (.exit 4)))
  (.block 5 (.region m48r10 [0, 1, 9, 10])))
def m48r12 : List MOper := [⟨.mv (.tmp 9), none, (some 62), [9]⟩,
  ⟨.mv (.tmp 10), none, (some 63), [10]⟩,
  ⟨.bin .gtr .other (.tmp 62) (.tmp 63), none, (some 64), [62, 63]⟩]
def m48r13 : List MOper := [⟨.mv (.tmp 0), none, (some 65), [0]⟩,
  ⟨.mv (.tmp 9), none, (some 66), [9]⟩,
  ⟨.mv (.tmp 0), none, (some 67), [0]⟩,
  ⟨.mv (.tmp 10), none, (some 68), [10]⟩,
  ⟨.mv (.tmp 0), none, (some 69), [0]⟩,
  ⟨.mv (.tmp 10), none, (some 70), [10]⟩,
  ⟨.iaddr 1 (.tmp 69) (.tmp 70), none, (some 71), [69, 70]⟩,
  ⟨.load none (.tmp 71), none, (some 72), [71]⟩,
  ⟨.mv (.tmp 0), none, (some 73), [0]⟩,
  ⟨.mv (.tmp 9), none, (some 74), [9]⟩,
  ⟨.iaddr 1 (.tmp 73) (.tmp 74), none, (some 75), [73, 74]⟩,
  ⟨.load none (.tmp 75), none, (some 76), [75]⟩]
def m48r14 : List MOper := [⟨.iaddr 1 (.tmp 65) (.tmp 66), none, (some 77), [65, 66]⟩,
  ⟨.store 1 (.tmp 77) (.tmp 72), none, none, [77, 72]⟩,
  ⟨.iaddr 1 (.tmp 67) (.tmp 68), none, (some 78), [67, 68]⟩,
  ⟨.store 1 (.tmp 78) (.tmp 76), none, none, [78, 76]⟩]
def m48r15 : List MOper := [⟨.mv (.tmp 9), none, (some 79), [9]⟩,
  ⟨.bin .add .other (.tmp 79) (.lit (.int .i64 1)), none, (some 80), [79]⟩,
  ⟨.mv (.tmp 80), none, (some 9), [80]⟩]
def m48r16 : List MOper := [⟨.mv (.tmp 10), none, (some 81), [10]⟩,
  ⟨.bin .sub .other (.tmp 81) (.lit (.int .i64 1)), none, (some 82), [81]⟩,
  ⟨.mv (.tmp 82), none, (some 10), [82]⟩]
def m48l17 : MCode := (.block 1 (.seq (.block 2 (.loop [0, 1, 9, 10] m48l7))
  (.seq (.block 4 (.loop [0, 1, 9, 10] m48l11))
  (.seq (.seq (.region m48r12 [0, 1, 9, 10, 64])
  (.cond (.tmp 64)
  (.exit 0)
  .skip))
  (.seq (.dregion m48r13 m48r14 [] [0, 1, 9, 10])
  (.seq (.region m48r15 [0, 1, 9, 10])
  (.region m48r16 [0, 1, 9, 10])))))))
def m48r18 : List MOper := [⟨.mv (.tmp 9), none, (some 83), [9]⟩,
  ⟨.mv (.tmp 83), none, (some 8), [83]⟩]
def m48 : MFunc := ⟨84, [.tmp 8],
  (.seq (.region m48r0 [0, 1, 2, 3])
  (.seq (.dregion m48r1 m48r2 [] [0, 1, 2])
  (.seq (.region m48r3 [0, 1, 9, 10])
  (.seq (.block 0 (.loop [0, 1, 9, 10] m48l17))
  (.seq (.region m48r18 [8])
  .ret)))))⟩
def h48 : List RH := [⟨[0, 1, 2, 3], 0, false, []⟩, ⟨[0, 1, 2], 12, false, []⟩, ⟨[0, 1, 9, 10], 0, false, []⟩, ⟨[0, 1, 9, 10], 0, false, []⟩, ⟨[0, 1, 9, 10], 0, false, []⟩, ⟨[0, 1, 9, 10, 43], 12, false, []⟩, ⟨[0, 1, 9, 10], 0, false, []⟩, ⟨[0, 1, 9, 10], 0, false, []⟩, ⟨[0, 1, 9, 10, 59], 12, false, []⟩, ⟨[0, 1, 9, 10], 0, false, []⟩, ⟨[0, 1, 9, 10, 64], 0, false, []⟩, ⟨[0, 1, 9, 10], 12, false, []⟩, ⟨[0, 1, 9, 10], 0, false, []⟩, ⟨[0, 1, 9, 10], 0, false, []⟩, ⟨[8], 0, false, []⟩]
theorem m48_ok : cmpFn Try.prog 48 h48 = some m48 := by kernel_rfl

/- slices.partitionOrdered[int] -/
def m49r0 : List MOper := [⟨.mv (.lit (.int .i64 0)), none, (some 8), []⟩,
  ⟨.mv (.lit (.bool false)), none, (some 9), []⟩]
def m49r1 : List MOper := [⟨.mv (.tmp 0), none, (some 12), [0]⟩,
  ⟨.mv (.tmp 1), none, (some 13), [1]⟩,
  ⟨.mv (.tmp 0), none, (some 14), [0]⟩,
  ⟨.mv (.tmp 3), none, (some 15), [3]⟩,
  ⟨.mv (.tmp 0), none, (some 16), [0]⟩,
  ⟨.mv (.tmp 3), none, (some 17), [3]⟩,
  ⟨.iaddr 1 (.tmp 16) (.tmp 17), none, (some 18), [16, 17]⟩,
  ⟨.load none (.tmp 18), none, (some 19), [18]⟩,
  ⟨.mv (.tmp 0), none, (some 20), [0]⟩,
  ⟨.mv (.tmp 1), none, (some 21), [1]⟩,
  ⟨.iaddr 1 (.tmp 20) (.tmp 21), none, (some 22), [20, 21]⟩,
  ⟨.load none (.tmp 22), none, (some 23), [22]⟩]
def m49r2 : List MOper := [⟨.iaddr 1 (.tmp 12) (.tmp 13), none, (some 24), [12, 13]⟩,
  ⟨.store 1 (.tmp 24) (.tmp 19), none, none, [24, 19]⟩,
  ⟨.iaddr 1 (.tmp 14) (.tmp 15), none, (some 25), [14, 15]⟩,
  ⟨.store 1 (.tmp 25) (.tmp 23), none, none, [25, 23]⟩]
def m49r3 : List MOper := [⟨.mv (.tmp 1), none, (some 26), [1]⟩,
  ⟨.bin .add .other (.tmp 26) (.lit (.int .i64 1)), none, (some 27), [26]⟩,
  ⟨.mv (.tmp 2), none, (some 28), [2]⟩,
  ⟨.bin .sub .other (.tmp 28) (.lit (.int .i64 1)), none, (some 29), [28]⟩,
  ⟨.mv (.tmp 27), none, (some 10), [27]⟩,
  ⟨.mv (.tmp 29), none, (some 11), [29]⟩]
def m49r4 : List MOper := [⟨.mv (.tmp 10), none, (some 30), [10]⟩,
  ⟨.mv (.tmp 11), none, (some 31), [11]⟩,
  ⟨.bin .leq .other (.tmp 30) (.tmp 31), none, (some 32), [30, 31]⟩,
  ⟨.mv (.tmp 32), none, (some 33), [32]⟩,
  ⟨.mv (.tmp 0), (some (33, true)), (some 34), [0]⟩,
  ⟨.mv (.tmp 10), (some (33, true)), (some 35), [10]⟩,
  ⟨.iaddr 1 (.tmp 34) (.tmp 35), (some (33, true)), (some 36), [34, 35]⟩,
  ⟨.load none (.tmp 36), (some (33, true)), (some 37), [36]⟩,
  ⟨.mv (.tmp 0), (some (33, true)), (some 38), [0]⟩,
  ⟨.mv (.tmp 1), (some (33, true)), (some 39), [1]⟩,
  ⟨.iaddr 1 (.tmp 38) (.tmp 39), (some (33, true)), (some 40), [38, 39]⟩,
  ⟨.load none (.tmp 40), (some (33, true)), (some 41), [40]⟩]
def m49r5 : List MOper := [⟨.call 47 [(.tmp 37), (.tmp 41)], (some (33, true)), (some 42), [37, 41]⟩,
  ⟨.pick (.tmp 33) (.tmp 42) (.lit (.bool false)), none, (some 43), [33, 42]⟩]
def m49r6 : List MOper := [⟨.mv (.tmp 10), none, (some 44), [10]⟩,
  ⟨.bin .add .other (.tmp 44) (.lit (.int .i64 1)), none, (some 45), [44]⟩,
  ⟨.mv (.tmp 45), none, (some 10), [45]⟩]
def m49l7 : MCode := (.seq (.seq (.dregion m49r4 m49r5 [] [0, 1, 10, 11, 43])
  (.cond (.tmp 43)
  .skip
  (.exit 0)))
  (.block 1 (.region m49r6 [0, 1, 10, 11])))
def m49r8 : List MOper := [⟨.mv (.tmp 10), none, (some 46), [10]⟩,
  ⟨.mv (.tmp 11), none, (some 47), [11]⟩,
  ⟨.bin .leq .other (.tmp 46) (.tmp 47), none, (some 48), [46, 47]⟩,
  ⟨.mv (.tmp 48), none, (some 49), [48]⟩,
  ⟨.mv (.tmp 0), (some (49, true)), (some 50), [0]⟩,
  ⟨.mv (.tmp 11), (some (49, true)), (some 51), [11]⟩,
  ⟨.iaddr 1 (.tmp 50) (.tmp 51), (some (49, true)), (some 52), [50, 51]⟩,
  ⟨.load none (.tmp 52), (some (49, true)), (some 53), [52]⟩,
  ⟨.mv (.tmp 0), (some (49, true)), (some 54), [0]⟩,
  ⟨.mv (.tmp 1), (some (49, true)), (some 55), [1]⟩,
  ⟨.iaddr 1 (.tmp 54) (.tmp 55), (some (49, true)), (some 56), [54, 55]⟩,
  ⟨.load none (.tmp 56), (some (49, true)), (some 57), [56]⟩]
def m49r9 : List MOper := [⟨.call 47 [(.tmp 53), (.tmp 57)], (some (49, true)), (some 58), [53, 57]⟩,
  ⟨.un .not (.tmp 58), (some (49, true)), (some 59), [58]⟩,
  ⟨.pick (.tmp 49) (.tmp 59) (.lit (.bool false)), none, (some 60), [49, 59]⟩]
def m49r10 : List MOper := [⟨.mv (.tmp 11), none, (some 61), [11]⟩,
  ⟨.bin .sub .other (.tmp 61) (.lit (.int .i64 1)), none, (some 62), [61]⟩,
  ⟨.mv (.tmp 62), none, (some 11), [62]⟩]
def m49l11 : MCode := (.seq (.seq (.dregion m49r8 m49r9 [] [0, 1, 10, 11, 60])
  (.cond (.tmp 60)
  .skip
  (.exit 2)))
  (.block 3 (.region m49r10 [0, 1, 10, 11])))
def m49r12 : List MOper := [⟨.mv (.tmp 10), none, (some 63), [10]⟩,
  ⟨.mv (.tmp 11), none, (some 64), [11]⟩,
  ⟨.bin .gtr .other (.tmp 63) (.tmp 64), none, (some 65), [63, 64]⟩]
def m49r13 : List MOper := [⟨.mv (.tmp 0), none, (some 66), [0]⟩,
  ⟨.mv (.tmp 11), none, (some 67), [11]⟩,
  ⟨.mv (.tmp 0), none, (some 68), [0]⟩,
  ⟨.mv (.tmp 1), none, (some 69), [1]⟩,
  ⟨.mv (.tmp 0), none, (some 70), [0]⟩,
  ⟨.mv (.tmp 1), none, (some 71), [1]⟩,
  ⟨.iaddr 1 (.tmp 70) (.tmp 71), none, (some 72), [70, 71]⟩,
  ⟨.load none (.tmp 72), none, (some 73), [72]⟩,
  ⟨.mv (.tmp 0), none, (some 74), [0]⟩,
  ⟨.mv (.tmp 11), none, (some 75), [11]⟩,
  ⟨.iaddr 1 (.tmp 74) (.tmp 75), none, (some 76), [74, 75]⟩,
  ⟨.load none (.tmp 76), none, (some 77), [76]⟩]
def m49r14 : List MOper := [⟨.iaddr 1 (.tmp 66) (.tmp 67), none, (some 78), [66, 67]⟩,
  ⟨.store 1 (.tmp 78) (.tmp 73), none, none, [78, 73]⟩,
  ⟨.iaddr 1 (.tmp 68) (.tmp 69), none, (some 79), [68, 69]⟩,
  ⟨.store 1 (.tmp 79) (.tmp 77), none, none, [79, 77]⟩]
def m49r15 : List MOper := [⟨.mv (.tmp 11), none, (some 80), [11]⟩,
  ⟨.mv (.tmp 80), none, (some 8), [80]⟩,
  ⟨.mv (.lit (.bool true)), none, (some 9), []⟩]
def m49r16 : List MOper := [⟨.mv (.tmp 0), none, (some 81), [0]⟩,
  ⟨.mv (.tmp 10), none, (some 82), [10]⟩,
  ⟨.mv (.tmp 0), none, (some 83), [0]⟩,
  ⟨.mv (.tmp 11), none, (some 84), [11]⟩,
  ⟨.mv (.tmp 0), none, (some 85), [0]⟩,
  ⟨.mv (.tmp 11), none, (some 86), [11]⟩,
  ⟨.iaddr 1 (.tmp 85) (.tmp 86), none, (some 87), [85, 86]⟩,
  ⟨.load none (.tmp 87), none, (some 88), [87]⟩,
  ⟨.mv (.tmp 0), none, (some 89), [0]⟩,
  ⟨.mv (.tmp 10), none, (some 90), [10]⟩,
  ⟨.iaddr 1 (.tmp 89) (.tmp 90), none, (some 91), [89, 90]⟩,
  ⟨.load none (.tmp 91), none, (some 92), [91]⟩]
def m49r17 : List MOper := [⟨.iaddr 1 (.tmp 81) (.tmp 82), none, (some 93), [81, 82]⟩,
  ⟨.store 1 (.tmp 93) (.tmp 88), none, none, [93, 88]⟩,
  ⟨.iaddr 1 (.tmp 83) (.tmp 84), none, (some 94), [83, 84]⟩,
  ⟨.store 1 (.tmp 94) (.tmp 92), none, none, [94, 92]⟩]
def m49r18 : List MOper := [⟨.mv (.tmp 10), none, (some 95), [10]⟩,
  ⟨.bin .add .other (.tmp 95) (.lit (.int .i64 1)), none, (some 96), [95]⟩,
  ⟨.mv (.tmp 96), none, (some 10), [96]⟩]
def m49r19 : List MOper := [⟨.mv (.tmp 11), none, (some 97), [11]⟩,
  ⟨.bin .sub .other (.tmp 97) (.lit (.int .i64 1)), none, (some 98), [97]⟩,
  ⟨.mv (.tmp 98), none, (some 11), [98]⟩]
def m49r20 : List MOper := [⟨.mv (.tmp 10), none, (some 99), [10]⟩,
  ⟨.mv (.tmp 11), none, (some 100), [11]⟩,
  ⟨.bin .leq .other (.tmp 99) (.tmp 100), none, (some 101), [99, 100]⟩,
  ⟨.mv (.tmp 101), none, (some 102), [101]⟩,
  ⟨.mv (.tmp 0), (some (102, true)), (some 103), [0]⟩,
  ⟨.mv (.tmp 10), (some (102, true)), (some 104), [10]⟩,
  ⟨.iaddr 1 (.tmp 103) (.tmp 104), (some (102, true)), (some 105), [103, 104]⟩,
  ⟨.load none (.tmp 105), (some (102, true)), (some 106), [105]⟩,
  ⟨.mv (.tmp 0), (some (102, true)), (some 107), [0]⟩,
  ⟨.mv (.tmp 1), (some (102, true)), (some 108), [1]⟩,
  ⟨.iaddr 1 (.tmp 107) (.tmp 108), (some (102, true)), (some 109), [107, 108]⟩,
  ⟨.load none (.tmp 109), (some (102, true)), (some 110), [109]⟩]
def m49r21 : List MOper := [⟨.call 47 [(.tmp 106), (.tmp 110)], (some (102, true)), (some 111), [106, 110]⟩,
  ⟨.pick (.tmp 102) (.tmp 111) (.lit (.bool false)), none, (some 112), [102, 111]⟩]
def m49r22 : List MOper := [⟨.mv (.tmp 10), none, (some 113), [10]⟩,
  ⟨.bin .add .other (.tmp 113) (.lit (.int .i64 1)), none, (some 114), [113]⟩,
  ⟨.mv (.tmp 114), none, (some 10), [114]⟩]
def m49l23 : MCode := (.seq (.seq (.dregion m49r20 m49r21 [] [0, 1, 10, 11, 112])
  (.cond (.tmp 112)
  .skip
  (.exit 6)))
  (.block 7 (.region m49r22 [0, 1, 10, 11])))
def m49r24 : List MOper := [⟨.mv (.tmp 10), none, (some 115), [10]⟩,
  ⟨.mv (.tmp 11), none, (some 116), [11]⟩,
  ⟨.bin .leq .other (.tmp 115) (.tmp 116), none, (some 117), [115, 116]⟩,
  ⟨.mv (.tmp 117), none, (some 118), [117]⟩,
  ⟨.mv (.tmp 0), (some (118, true)), (some 119), [0]⟩,
  ⟨.mv (.tmp 11), (some (118, true)), (some 120), [11]⟩,
  ⟨.iaddr 1 (.tmp 119) (.tmp 120), (some (118, true)), (some 121), [119, 120]⟩,
  ⟨.load none (.tmp 121), (some (118, true)), (some 122), [121]⟩,
  ⟨.mv (.tmp 0), (some (118, true)), (some 123), [0]⟩,
  ⟨.mv (.tmp 1), (some (118, true)), (some 124), [1]⟩,
  ⟨.iaddr 1 (.tmp 123) (.tmp 124), (some (118, true)), (some 125), [123, 124]⟩,
  ⟨.load none (.tmp 125), (some (118, true)), (some 126), [125]⟩]
def m49r25 : List MOper := [⟨.call 47 [(.tmp 122), (.tmp 126)], (some (118, true)), (some 127), [122, 126]⟩,
  ⟨.un .not (.tmp 127), (some (118, true)), (some 128), [127]⟩,
  ⟨.pick (.tmp 118) (.tmp 128) (.lit (.bool false)), none, (some 129), [118, 128]⟩]
def m49r26 : List MOper := [⟨.mv (.tmp 11), none, (some 130), [11]⟩,
  ⟨.bin .sub .other (.tmp 130) (.lit (.int .i64 1)), none, (some 131), [130]⟩,
  ⟨.mv (.tmp 131), none, (some 11), [131]⟩]
def m49l27 : MCode := (.seq (.seq (.dregion m49r24 m49r25 [] [0, 1, 10, 11, 129])
  (.cond (.tmp 129)
  .skip
  (.exit 8)))
  (.block 9 (.region m49r26 [0, 1, 10, 11])))
def m49r28 : List MOper := [⟨.mv (.tmp 10), none, (some 132), [10]⟩,
  ⟨.mv (.tmp 11), none, (some 133), [11]⟩,
  ⟨.bin .gtr .other (.tmp 132) (.tmp 133), none, (some 134), [132, 133]⟩]
def m49r29 : List MOper := [⟨.mv (.tmp 0), none, (some 135), [0]⟩,
  ⟨.mv (.tmp 10), none, (some 136), [10]⟩,
  ⟨.mv (.tmp 0), none, (some 137), [0]⟩,
  ⟨.mv (.tmp 11), none, (some 138), [11]⟩,
  ⟨.mv (.tmp 0), none, (some 139), [0]⟩,
  ⟨.mv (.tmp 11), none, (some 140), [11]⟩,
  ⟨.iaddr 1 (.tmp 139) (.tmp 140), none, (some 141), [139, 140]⟩,
  ⟨.load none (.tmp 141), none, (some 142), [141]⟩,
  ⟨.mv (.tmp 0), none, (some 143), [0]⟩,
  ⟨.mv (.tmp 10), none, (some 144), [10]⟩,
  ⟨.iaddr 1 (.tmp 143) (.tmp 144), none, (some 145), [143, 144]⟩,
  ⟨.load none (.tmp 145), none, (some 146), [145]⟩]
def m49r30 : List MOper := [⟨.iaddr 1 (.tmp 135) (.tmp 136), none, (some 147), [135, 136]⟩,
  ⟨.store 1 (.tmp 147) (.tmp 142), none, none, [147, 142]⟩,
  ⟨.iaddr 1 (.tmp 137) (.tmp 138), none, (some 148), [137, 138]⟩,
  ⟨.store 1 (.tmp 148) (.tmp 146), none, none, [148, 146]⟩]
def m49r31 : List MOper := [⟨.mv (.tmp 10), none, (some 149), [10]⟩,
  ⟨.bin .add .other (.tmp 149) (.lit (.int .i64 1)), none, (some 150), [149]⟩,
  ⟨.mv (.tmp 150), none, (some 10), [150]⟩]
def m49r32 : List MOper := [⟨.mv (.tmp 11), none, (some 151), [11]⟩,
  ⟨.bin .sub .other (.tmp 151) (.lit (.int .i64 1)), none, (some 152), [151]⟩,
  ⟨.mv (.tmp 152), none, (some 11), [152]⟩]
def m49l33 : MCode := (.block 5 (.seq (.block 6 (.loop [0, 1, 10, 11] m49l23))
  (.seq (.block 8 (.loop [0, 1, 10, 11] m49l27))
  (.seq (.seq (.region m49r28 [0, 1, 10, 11, 134])
  (.cond (.tmp 134)
  (.exit 4)
  .skip))
  (.seq (.dregion m49r29 m49r30 [] [0, 1, 10, 11])
  (.seq (.region m49r31 [0, 1, 10, 11])
  (.region m49r32 [0, 1, 10, 11])))))))
def m49r34 : List MOper := [⟨.mv (.tmp 0), none, (some 153), [0]⟩,
  ⟨.mv (.tmp 11), none, (some 154), [11]⟩,
  ⟨.mv (.tmp 0), none, (some 155), [0]⟩,
  ⟨.mv (.tmp 1), none, (some 156), [1]⟩,
  ⟨.mv (.tmp 0), none, (some 157), [0]⟩,
  ⟨.mv (.tmp 1), none, (some 158), [1]⟩,
  ⟨.iaddr 1 (.tmp 157) (.tmp 158), none, (some 159), [157, 158]⟩,
  ⟨.load none (.tmp 159), none, (some 160), [159]⟩,
  ⟨.mv (.tmp 0), none, (some 161), [0]⟩,
  ⟨.mv (.tmp 11), none, (some 162), [11]⟩,
  ⟨.iaddr 1 (.tmp 161) (.tmp 162), none, (some 163), [161, 162]⟩,
  ⟨.load none (.tmp 163), none, (some 164), [163]⟩]
def m49r35 : List MOper := [⟨.iaddr 1 (.tmp 153) (.tmp 154), none, (some 165), [153, 154]⟩,
  ⟨.store 1 (.tmp 165) (.tmp 160), none, none, [165, 160]⟩,
  ⟨.iaddr 1 (.tmp 155) (.tmp 156), none, (some 166), [155, 156]⟩,
  ⟨.store 1 (.tmp 166) (.tmp 164), none, none, [166, 164]⟩]
def m49r36 : List MOper := [⟨.mv (.tmp 11), none, (some 167), [11]⟩,
  ⟨.mv (.tmp 167), none, (some 8), [167]⟩,
  ⟨.mv (.lit (.bool false)), none, (some 9), []⟩]
def m49 : MFunc := ⟨168, [.tmp 8, .tmp 9],
  (.seq (.region m49r0 [0, 1, 2, 3])
  (.seq (.dregion m49r1 m49r2 [] [0, 1, 2])
  (.seq (.region m49r3 [0, 1, 10, 11])
  (.seq (.block 0 (.loop [0, 1, 10, 11] m49l7))
  (.seq (.block 2 (.loop [0, 1, 10, 11] m49l11))
  (.seq (.seq (.region m49r12 [0, 1, 10, 11, 65])
  (.cond (.tmp 65)
  (.seq (.dregion m49r13 m49r14 [] [11])
  (.seq (.region m49r15 [8, 9])
  .ret))
  .skip))
  (.seq (.dregion m49r16 m49r17 [] [0, 1, 10, 11])
  (.seq (.region m49r18 [0, 1, 10, 11])
  (.seq (.region m49r19 [0, 1, 10, 11])
  (.seq (.block 4 (.loop [0, 1, 10, 11] m49l33))
  (.seq (.dregion m49r34 m49r35 [] [11])
  (.seq (.region m49r36 [8, 9])
  .ret))))))))))))⟩
def h49 : List RH := [⟨[0, 1, 2, 3], 0, false, []⟩, ⟨[0, 1, 2], 12, false, []⟩, ⟨[0, 1, 10, 11], 0, false, []⟩, ⟨[0, 1, 10, 11], 0, false, []⟩, ⟨[0, 1, 10, 11, 43], 12, false, []⟩, ⟨[0, 1, 10, 11], 0, false, []⟩, ⟨[0, 1, 10, 11], 0, false, []⟩, ⟨[0, 1, 10, 11, 60], 12, false, []⟩, ⟨[0, 1, 10, 11], 0, false, []⟩, ⟨[0, 1, 10, 11, 65], 0, false, []⟩, ⟨[11], 12, false, []⟩, ⟨[8, 9], 0, false, []⟩, ⟨[0, 1, 10, 11], 12, false, []⟩, ⟨[0, 1, 10, 11], 0, false, []⟩, ⟨[0, 1, 10, 11], 0, false, []⟩, ⟨[0, 1, 10, 11], 0, false, []⟩, ⟨[0, 1, 10, 11], 0, false, []⟩, ⟨[0, 1, 10, 11, 112], 12, false, []⟩, ⟨[0, 1, 10, 11], 0, false, []⟩, ⟨[0, 1, 10, 11], 0, false, []⟩, ⟨[0, 1, 10, 11, 129], 12, false, []⟩, ⟨[0, 1, 10, 11], 0, false, []⟩, ⟨[0, 1, 10, 11, 134], 0, false, []⟩, ⟨[0, 1, 10, 11], 12, false, []⟩, ⟨[0, 1, 10, 11], 0, false, []⟩, ⟨[0, 1, 10, 11], 0, false, []⟩, ⟨[11], 12, false, []⟩, ⟨[8, 9], 0, false, []⟩]
theorem m49_ok : cmpFn Try.prog 49 h49 = some m49 := by kernel_rfl

/- math/bits.Len32 -/
def m50r0 : List MOper := [⟨.mv (.lit (.int .i64 0)), none, (some 2), []⟩]
def m50r1 : List MOper := [⟨.mv (.tmp 0), none, (some 3), [0]⟩,
  ⟨.bin .geq .other (.tmp 3) (.lit (.int .u32 65536)), none, (some 4), [3]⟩]
def m50r2 : List MOper := [⟨.mv (.tmp 0), none, (some 5), [0]⟩,
  ⟨.bin .shr .other (.tmp 5) (.lit (.int .u64 16)), none, (some 6), [5]⟩,
  ⟨.mv (.tmp 6), none, (some 0), [6]⟩]
def m50r3 : List MOper := [⟨.mv (.lit (.int .i64 16)), none, (some 2), []⟩]
def m50r4 : List MOper := [⟨.mv (.tmp 0), none, (some 7), [0]⟩,
  ⟨.bin .geq .other (.tmp 7) (.lit (.int .u32 256)), none, (some 8), [7]⟩]
def m50r5 : List MOper := [⟨.mv (.tmp 0), none, (some 9), [0]⟩,
  ⟨.bin .shr .other (.tmp 9) (.lit (.int .u64 8)), none, (some 10), [9]⟩,
  ⟨.mv (.tmp 10), none, (some 0), [10]⟩]
def m50r6 : List MOper := [⟨.mv (.tmp 2), none, (some 11), [2]⟩,
  ⟨.bin .add .other (.tmp 11) (.lit (.int .i64 8)), none, (some 12), [11]⟩,
  ⟨.mv (.tmp 12), none, (some 2), [12]⟩]
def m50r7 : List MOper := [⟨.mv (.tmp 2), none, (some 13), [2]⟩,
  ⟨.mv (.tmp 0), none, (some 14), [0]⟩,
  ⟨.conv .u8 (.tmp 14), none, (some 15), [14]⟩,
  ⟨.sidx (.lit (.str [0, 1, 2, 2, 3, 3, 3, 3, 4, 4, 4, 4, 4, 4, 4, 4, 5, 5, 5, 5, 5, 5, 5, 5, 5, 5, 5, 5, 5, 5, 5, 5, 6, 6, 6, 6, 6, 6, 6, 6, 6, 6, 6, 6, 6, 6, 6, 6, 6, 6, 6, 6, 6, 6, 6, 6, 6, 6, 6, 6, 6, 6, 6, 6, 7, 7, 7, 7, 7, 7, 7, 7, 7, 7, 7, 7, 7, 7, 7, 7, 7, 7, 7, 7, 7, 7, 7, 7, 7, 7, 7, 7, 7, 7, 7, 7, 7, 7, 7, 7, 7, 7, 7, 7, 7, 7, 7, 7, 7, 7, 7, 7, 7, 7, 7, 7, 7, 7, 7, 7, 7, 7, 7, 7, 7, 7, 7, 7, 8, 8, 8, 8, 8, 8, 8, 8, 8, 8, 8, 8, 8, 8, 8, 8, 8, 8, 8, 8, 8, 8, 8, 8, 8, 8, 8, 8, 8, 8, 8, 8, 8, 8, 8, 8, 8, 8, 8, 8, 8, 8, 8, 8, 8, 8, 8, 8, 8, 8, 8, 8, 8, 8, 8, 8, 8, 8, 8, 8, 8, 8, 8, 8, 8, 8, 8, 8, 8, 8, 8, 8, 8, 8, 8, 8, 8, 8, 8, 8, 8, 8, 8, 8, 8, 8, 8, 8, 8, 8, 8, 8, 8, 8, 8, 8, 8, 8, 8, 8, 8, 8, 8, 8, 8, 8, 8, 8, 8, 8, 8, 8, 8, 8, 8, 8, 8, 8, 8, 8, 8, 8, 8, 8, 8, 8, 8, 8])) (.tmp 15), none, (some 16), [15]⟩,
  ⟨.conv .i64 (.tmp 16), none, (some 17), [16]⟩,
  ⟨.bin .add .other (.tmp 13) (.tmp 17), none, (some 18), [13, 17]⟩,
  ⟨.mv (.tmp 18), none, (some 2), [18]⟩]
def m50 : MFunc := ⟨19, [.tmp 2],
  (.seq (.region m50r0 [0, 2])
  (.seq (.seq (.region m50r1 [0, 2, 4])
  (.cond (.tmp 4)
  (.seq (.region m50r2 [0])
  (.region m50r3 [0, 2]))
  .skip))
  (.seq (.seq (.region m50r4 [0, 2, 8])
  (.cond (.tmp 8)
  (.seq (.region m50r5 [0, 2])
  (.region m50r6 [0, 2]))
  .skip))
  (.seq (.region m50r7 [2])
  .ret))))⟩
def h50 : List RH := [⟨[0, 2], 0, false, []⟩, ⟨[0, 2, 4], 0, false, []⟩, ⟨[0], 0, false, []⟩, ⟨[0, 2], 0, false, []⟩, ⟨[0, 2, 8], 0, false, []⟩, ⟨[0, 2], 0, false, []⟩, ⟨[0, 2], 0, false, []⟩, ⟨[2], 0, false, []⟩]
theorem m50_ok : cmpFn Try.prog 50 h50 = some m50 := by kernel_rfl

/- math/bits.Len64 -/
def m51r0 : List MOper := [⟨.mv (.lit (.int .i64 0)), none, (some 2), []⟩]
def m51r1 : List MOper := [⟨.mv (.tmp 0), none, (some 3), [0]⟩,
  ⟨.bin .geq .other (.tmp 3) (.lit (.int .u64 4294967296)), none, (some 4), [3]⟩]
def m51r2 : List MOper := [⟨.mv (.tmp 0), none, (some 5), [0]⟩,
  ⟨.bin .shr .other (.tmp 5) (.lit (.int .u64 32)), none, (some 6), [5]⟩,
  ⟨.mv (.tmp 6), none, (some 0), [6]⟩]
def m51r3 : List MOper := [⟨.mv (.lit (.int .i64 32)), none, (some 2), []⟩]
def m51r4 : List MOper := [⟨.mv (.tmp 0), none, (some 7), [0]⟩,
  ⟨.bin .geq .other (.tmp 7) (.lit (.int .u64 65536)), none, (some 8), [7]⟩]
def m51r5 : List MOper := [⟨.mv (.tmp 0), none, (some 9), [0]⟩,
  ⟨.bin .shr .other (.tmp 9) (.lit (.int .u64 16)), none, (some 10), [9]⟩,
  ⟨.mv (.tmp 10), none, (some 0), [10]⟩]
def m51r6 : List MOper := [⟨.mv (.tmp 2), none, (some 11), [2]⟩,
  ⟨.bin .add .other (.tmp 11) (.lit (.int .i64 16)), none, (some 12), [11]⟩,
  ⟨.mv (.tmp 12), none, (some 2), [12]⟩]
def m51r7 : List MOper := [⟨.mv (.tmp 0), none, (some 13), [0]⟩,
  ⟨.bin .geq .other (.tmp 13) (.lit (.int .u64 256)), none, (some 14), [13]⟩]
def m51r8 : List MOper := [⟨.mv (.tmp 0), none, (some 15), [0]⟩,
  ⟨.bin .shr .other (.tmp 15) (.lit (.int .u64 8)), none, (some 16), [15]⟩,
  ⟨.mv (.tmp 16), none, (some 0), [16]⟩]
def m51r9 : List MOper := [⟨.mv (.tmp 2), none, (some 17), [2]⟩,
  ⟨.bin .add .other (.tmp 17) (.lit (.int .i64 8)), none, (some 18), [17]⟩,
  ⟨.mv (.tmp 18), none, (some 2), [18]⟩]
def m51r10 : List MOper := [⟨.mv (.tmp 2), none, (some 19), [2]⟩,
  ⟨.mv (.tmp 0), none, (some 20), [0]⟩,
  ⟨.conv .u8 (.tmp 20), none, (some 21), [20]⟩,
  ⟨.sidx (.lit (.str [0, 1, 2, 2, 3, 3, 3, 3, 4, 4, 4, 4, 4, 4, 4, 4, 5, 5, 5, 5, 5, 5, 5, 5, 5, 5, 5, 5, 5, 5, 5, 5, 6, 6, 6, 6, 6, 6, 6, 6, 6, 6, 6, 6, 6, 6, 6, 6, 6, 6, 6, 6, 6, 6, 6, 6, 6, 6, 6, 6, 6, 6, 6, 6, 7, 7, 7, 7, 7, 7, 7, 7, 7, 7, 7, 7, 7, 7, 7, 7, 7, 7, 7, 7, 7, 7, 7, 7, 7, 7, 7, 7, 7, 7, 7, 7, 7, 7, 7, 7, 7, 7, 7, 7, 7, 7, 7, 7, 7, 7, 7, 7, 7, 7, 7, 7, 7, 7, 7, 7, 7, 7, 7, 7, 7, 7, 7, 7, 8, 8, 8, 8, 8, 8, 8, 8, 8, 8, 8, 8, 8, 8, 8, 8, 8, 8, 8, 8, 8, 8, 8, 8, 8, 8, 8, 8, 8, 8, 8, 8, 8, 8, 8, 8, 8, 8, 8, 8, 8, 8, 8, 8, 8, 8, 8, 8, 8, 8, 8, 8, 8, 8, 8, 8, 8, 8, 8, 8, 8, 8, 8, 8, 8, 8, 8, 8, 8, 8, 8, 8, 8, 8, 8, 8, 8, 8, 8, 8, 8, 8, 8, 8, 8, 8, 8, 8, 8, 8, 8, 8, 8, 8, 8, 8, 8, 8, 8, 8, 8, 8, 8, 8, 8, 8, 8, 8, 8, 8, 8, 8, 8, 8, 8, 8, 8, 8, 8, 8, 8, 8, 8, 8, 8, 8, 8, 8])) (.tmp 21), none, (some 22), [21]⟩,
  ⟨.conv .i64 (.tmp 22), none, (some 23), [22]⟩,
  ⟨.bin .add .other (.tmp 19) (.tmp 23), none, (some 24), [19, 23]⟩,
  ⟨.mv (.tmp 24), none, (some 2), [24]⟩]
def m51 : MFunc := ⟨25, [.tmp 2],
  (.seq (.region m51r0 [0, 2])
  (.seq (.seq (.region m51r1 [0, 2, 4])
  (.cond (.tmp 4)
  (.seq (.region m51r2 [0])
  (.region m51r3 [0, 2]))
  .skip))
  (.seq (.seq (.region m51r4 [0, 2, 8])
  (.cond (.tmp 8)
  (.seq (.region m51r5 [0, 2])
  (.region m51r6 [0, 2]))
  .skip))
  (.seq (.seq (.region m51r7 [0, 2, 14])
  (.cond (.tmp 14)
  (.seq (.region m51r8 [0, 2])
  (.region m51r9 [0, 2]))
  .skip))
  (.seq (.region m51r10 [2])
  .ret)))))⟩
def h51 : List RH := [⟨[0, 2], 0, false, []⟩, ⟨[0, 2, 4], 0, false, []⟩, ⟨[0], 0, false, []⟩, ⟨[0, 2], 0, false, []⟩, ⟨[0, 2, 8], 0, false, []⟩, ⟨[0, 2], 0, false, []⟩, ⟨[0, 2], 0, false, []⟩, ⟨[0, 2, 14], 0, false, []⟩, ⟨[0, 2], 0, false, []⟩, ⟨[0, 2], 0, false, []⟩, ⟨[2], 0, false, []⟩]
theorem m51_ok : cmpFn Try.prog 51 h51 = some m51 := by kernel_rfl

/- slices.insertionSortCmpFunc[int] -/
def m52r0 : List MOper := [⟨.mv (.tmp 1), none, (some 10), [1]⟩,
  ⟨.bin .add .other (.tmp 10) (.lit (.int .i64 1)), none, (some 11), [10]⟩,
  ⟨.mv (.tmp 11), none, (some 8), [11]⟩]
def m52r1 : List MOper := [⟨.mv (.tmp 8), none, (some 12), [8]⟩,
  ⟨.mv (.tmp 2), none, (some 13), [2]⟩,
  ⟨.bin .lss .other (.tmp 12) (.tmp 13), none, (some 14), [12, 13]⟩]
def m52r2 : List MOper := [⟨.mv (.tmp 8), none, (some 17), [8]⟩,
  ⟨.mv (.tmp 17), none, (some 9), [17]⟩]
def m52r3 : List MOper := [⟨.mv (.tmp 9), none, (some 18), [9]⟩,
  ⟨.mv (.tmp 1), none, (some 19), [1]⟩,
  ⟨.bin .gtr .other (.tmp 18) (.tmp 19), none, (some 20), [18, 19]⟩,
  ⟨.mv (.tmp 20), none, (some 21), [20]⟩,
  ⟨.mv (.tmp 3), (some (21, true)), (some 22), [3]⟩,
  ⟨.mv (.tmp 0), (some (21, true)), (some 23), [0]⟩,
  ⟨.mv (.tmp 9), (some (21, true)), (some 24), [9]⟩,
  ⟨.iaddr 1 (.tmp 23) (.tmp 24), (some (21, true)), (some 25), [23, 24]⟩,
  ⟨.load none (.tmp 25), (some (21, true)), (some 26), [25]⟩,
  ⟨.mv (.tmp 0), (some (21, true)), (some 27), [0]⟩,
  ⟨.mv (.tmp 9), (some (21, true)), (some 28), [9]⟩,
  ⟨.bin .sub .other (.tmp 28) (.lit (.int .i64 1)), (some (21, true)), (some 29), [28]⟩,
  ⟨.iaddr 1 (.tmp 27) (.tmp 29), (some (21, true)), (some 30), [27, 29]⟩,
  ⟨.load none (.tmp 30), (some (21, true)), (some 31), [30]⟩]
def m52r4 : List MOper := [⟨.callv (.tmp 22) [(.tmp 26), (.tmp 31)], (some (21, true)), (some 32), [22, 26, 31]⟩,
  ⟨.bin .lss .other (.tmp 32) (.lit (.int .i64 0)), (some (21, true)), (some 33), [32]⟩,
  ⟨.pick (.tmp 21) (.tmp 33) (.lit (.bool false)), none, (some 34), [21, 33]⟩]
def m52r5 : List MOper := [⟨.mv (.tmp 0), none, (some 37), [0]⟩,
  ⟨.mv (.tmp 9), none, (some 38), [9]⟩,
  ⟨.mv (.tmp 0), none, (some 39), [0]⟩,
  ⟨.mv (.tmp 9), none, (some 40), [9]⟩,
  ⟨.bin .sub .other (.tmp 40) (.lit (.int .i64 1)), none, (some 41), [40]⟩,
  ⟨.mv (.tmp 0), none, (some 42), [0]⟩,
  ⟨.mv (.tmp 9), none, (some 43), [9]⟩,
  ⟨.bin .sub .other (.tmp 43) (.lit (.int .i64 1)), none, (some 44), [43]⟩,
  ⟨.iaddr 1 (.tmp 42) (.tmp 44), none, (some 45), [42, 44]⟩,
  ⟨.load none (.tmp 45), none, (some 46), [45]⟩,
  ⟨.mv (.tmp 0), none, (some 47), [0]⟩,
  ⟨.mv (.tmp 9), none, (some 48), [9]⟩,
  ⟨.iaddr 1 (.tmp 47) (.tmp 48), none, (some 49), [47, 48]⟩,
  ⟨.load none (.tmp 49), none, (some 50), [49]⟩]
def m52r6 : List MOper := [⟨.iaddr 1 (.tmp 37) (.tmp 38), none, (some 51), [37, 38]⟩,
  ⟨.store 1 (.tmp 51) (.tmp 46), none, none, [51, 46]⟩,
  ⟨.iaddr 1 (.tmp 39) (.tmp 41), none, (some 52), [39, 41]⟩,
  ⟨.store 1 (.tmp 52) (.tmp 50), none, none, [52, 50]⟩]
def m52r7 : List MOper := [⟨.mv (.tmp 9), none, (some 35), [9]⟩,
  ⟨.bin .sub .other (.tmp 35) (.lit (.int .i64 1)), none, (some 36), [35]⟩,
  ⟨.mv (.tmp 36), none, (some 9), [36]⟩]
def m52l8 : MCode := (.seq (.seq (.dregion m52r3 m52r4 [] [0, 1, 2, 3, 8, 9, 34])
  (.cond (.tmp 34)
  .skip
  (.exit 2)))
  (.seq (.block 3 (.dregion m52r5 m52r6 [] [0, 1, 2, 3, 8, 9]))
  (.region m52r7 [0, 1, 2, 3, 8, 9])))
def m52r9 : List MOper := [⟨.mv (.tmp 8), none, (some 15), [8]⟩,
  ⟨.bin .add .other (.tmp 15) (.lit (.int .i64 1)), none, (some 16), [15]⟩,
  ⟨.mv (.tmp 16), none, (some 8), [16]⟩]
def m52l10 : MCode := (.seq (.seq (.region m52r1 [0, 1, 2, 3, 8, 14])
  (.cond (.tmp 14)
  .skip
  (.exit 0)))
  (.seq (.block 1 (.seq (.region m52r2 [0, 1, 2, 3, 8, 9])
  (.block 2 (.loop [0, 1, 2, 3, 8, 9] m52l8))))
  (.region m52r9 [0, 1, 2, 3, 8])))
def m52 : MFunc := ⟨53, [],
  (.seq (.region m52r0 [0, 1, 2, 3, 8])
  (.block 0 (.loop [0, 1, 2, 3, 8] m52l10)))⟩
def h52 : List RH := [⟨[0, 1, 2, 3, 8], 0, false, []⟩, ⟨[0, 1, 2, 3, 8], 0, false, []⟩, ⟨[0, 1, 2, 3, 8, 14], 0, false, []⟩, ⟨[0, 1, 2, 3, 8, 9], 0, false, []⟩, ⟨[0, 1, 2, 3, 8, 9], 0, false, []⟩, ⟨[0, 1, 2, 3, 8, 9, 34], 14, false, []⟩, ⟨[0, 1, 2, 3, 8, 9], 14, false, []⟩, ⟨[0, 1, 2, 3, 8, 9], 0, false, []⟩, ⟨[0, 1, 2, 3, 8], 0, false, []⟩]
theorem m52_ok : cmpFn Try.prog 52 h52 = some m52 := by kernel_rfl

/- slices.symMergeCmpFunc[int] -/
def m53r0 : List MOper := [⟨.mv (.tmp 2), none, (some 25), [2]⟩,
  ⟨.mv (.tmp 1), none, (some 26), [1]⟩,
  ⟨.bin .sub .other (.tmp 25) (.tmp 26), none, (some 27), [25, 26]⟩,
  ⟨.bin .eql .other (.tmp 27) (.lit (.int .i64 1)), none, (some 28), [27]⟩]
def m53r1 : List MOper := [⟨.mv (.tmp 2), none, (some 29), [2]⟩,
  ⟨.mv (.tmp 29), none, (some 10), [29]⟩]
def m53r2 : List MOper := [⟨.mv (.tmp 3), none, (some 30), [3]⟩,
  ⟨.mv (.tmp 30), none, (some 11), [30]⟩]
def m53r3 : List MOper := [⟨.mv (.tmp 10), none, (some 31), [10]⟩,
  ⟨.mv (.tmp 11), none, (some 32), [11]⟩,
  ⟨.bin .lss .other (.tmp 31) (.tmp 32), none, (some 33), [31, 32]⟩]
def m53r4 : List MOper := [⟨.mv (.tmp 10), none, (some 34), [10]⟩,
  ⟨.mv (.tmp 11), none, (some 35), [11]⟩,
  ⟨.bin .add .other (.tmp 34) (.tmp 35), none, (some 36), [34, 35]⟩,
  ⟨.conv .u64 (.tmp 36), none, (some 37), [36]⟩,
  ⟨.bin .shr .other (.tmp 37) (.lit (.int .u64 1)), none, (some 38), [37]⟩,
  ⟨.conv .i64 (.tmp 38), none, (some 39), [38]⟩,
  ⟨.mv (.tmp 39), none, (some 12), [39]⟩]
def m53r5 : List MOper := [⟨.mv (.tmp 4), none, (some 40), [4]⟩,
  ⟨.mv (.tmp 0), none, (some 41), [0]⟩,
  ⟨.mv (.tmp 12), none, (some 42), [12]⟩,
  ⟨.iaddr 1 (.tmp 41) (.tmp 42), none, (some 43), [41, 42]⟩,
  ⟨.load none (.tmp 43), none, (some 44), [43]⟩,
  ⟨.mv (.tmp 0), none, (some 45), [0]⟩,
  ⟨.mv (.tmp 1), none, (some 46), [1]⟩,
  ⟨.iaddr 1 (.tmp 45) (.tmp 46), none, (some 47), [45, 46]⟩,
  ⟨.load none (.tmp 47), none, (some 48), [47]⟩]
def m53r6 : List MOper := [⟨.callv (.tmp 40) [(.tmp 44), (.tmp 48)], none, (some 49), [40, 44, 48]⟩,
  ⟨.bin .lss .other (.tmp 49) (.lit (.int .i64 0)), none, (some 50), [49]⟩]
def m53r7 : List MOper := [⟨.mv (.tmp 12), none, (some 51), [12]⟩,
  ⟨.bin .add .other (.tmp 51) (.lit (.int .i64 1)), none, (some 52), [51]⟩,
  ⟨.mv (.tmp 52), none, (some 10), [52]⟩]
def m53r8 : List MOper := [⟨.mv (.tmp 12), none, (some 53), [12]⟩,
  ⟨.mv (.tmp 53), none, (some 11), [53]⟩]
def m53l9 : MCode := (.seq (.seq (.region m53r3 [0, 1, 4, 10, 11, 33])
  (.cond (.tmp 33)
  .skip
  (.exit 0)))
  (.block 1 (.seq (.region m53r4 [0, 1, 4, 10, 11, 12])
  (.seq (.dregion m53r5 m53r6 [] [0, 1, 4, 10, 11, 12, 50])
  (.cond (.tmp 50)
  (.region m53r7 [0, 1, 4, 10, 11])
  (.region m53r8 [0, 1, 4, 10, 11]))))))
def m53r10 : List MOper := [⟨.mv (.tmp 1), none, (some 54), [1]⟩,
  ⟨.mv (.tmp 54), none, (some 13), [54]⟩]
def m53r11 : List MOper := [⟨.mv (.tmp 13), none, (some 55), [13]⟩,
  ⟨.mv (.tmp 10), none, (some 56), [10]⟩,
  ⟨.bin .sub .other (.tmp 56) (.lit (.int .i64 1)), none, (some 57), [56]⟩,
  ⟨.bin .lss .other (.tmp 55) (.tmp 57), none, (some 58), [55, 57]⟩]
def m53r12 : List MOper := [⟨.mv (.tmp 0), none, (some 61), [0]⟩,
  ⟨.mv (.tmp 13), none, (some 62), [13]⟩,
  ⟨.mv (.tmp 0), none, (some 63), [0]⟩,
  ⟨.mv (.tmp 13), none, (some 64), [13]⟩,
  ⟨.bin .add .other (.tmp 64) (.lit (.int .i64 1)), none, (some 65), [64]⟩,
  ⟨.mv (.tmp 0), none, (some 66), [0]⟩,
  ⟨.mv (.tmp 13), none, (some 67), [13]⟩,
  ⟨.bin .add .other (.tmp 67) (.lit (.int .i64 1)), none, (some 68), [67]⟩,
  ⟨.iaddr 1 (.tmp 66) (.tmp 68), none, (some 69), [66, 68]⟩,
  ⟨.load none (.tmp 69), none, (some 70), [69]⟩,
  ⟨.mv (.tmp 0), none, (some 71), [0]⟩,
  ⟨.mv (.tmp 13), none, (some 72), [13]⟩,
  ⟨.iaddr 1 (.tmp 71) (.tmp 72), none, (some 73), [71, 72]⟩,
  ⟨.load none (.tmp 73), none, (some 74), [73]⟩]
def m53r13 : List MOper := [⟨.iaddr 1 (.tmp 61) (.tmp 62), none, (some 75), [61, 62]⟩,
  ⟨.store 1 (.tmp 75) (.tmp 70), none, none, [75, 70]⟩,
  ⟨.iaddr 1 (.tmp 63) (.tmp 65), none, (some 76), [63, 65]⟩,
  ⟨.store 1 (.tmp 76) (.tmp 74), none, none, [76, 74]⟩]
def m53r14 : List MOper := [⟨.mv (.tmp 13), none, (some 59), [13]⟩,
  ⟨.bin .add .other (.tmp 59) (.lit (.int .i64 1)), none, (some 60), [59]⟩,
  ⟨.mv (.tmp 60), none, (some 13), [60]⟩]
def m53l15 : MCode := (.seq (.seq (.region m53r11 [0, 10, 13, 58])
  (.cond (.tmp 58)
  .skip
  (.exit 2)))
  (.seq (.block 3 (.dregion m53r12 m53r13 [] [0, 10, 13]))
  (.region m53r14 [0, 10, 13])))
def m53r16 : List MOper := [⟨.mv (.tmp 3), none, (some 77), [3]⟩,
  ⟨.mv (.tmp 2), none, (some 78), [2]⟩,
  ⟨.bin .sub .other (.tmp 77) (.tmp 78), none, (some 79), [77, 78]⟩,
  ⟨.bin .eql .other (.tmp 79) (.lit (.int .i64 1)), none, (some 80), [79]⟩]
def m53r17 : List MOper := [⟨.mv (.tmp 1), none, (some 81), [1]⟩,
  ⟨.mv (.tmp 81), none, (some 14), [81]⟩]
def m53r18 : List MOper := [⟨.mv (.tmp 2), none, (some 82), [2]⟩,
  ⟨.mv (.tmp 82), none, (some 15), [82]⟩]
def m53r19 : List MOper := [⟨.mv (.tmp 14), none, (some 83), [14]⟩,
  ⟨.mv (.tmp 15), none, (some 84), [15]⟩,
  ⟨.bin .lss .other (.tmp 83) (.tmp 84), none, (some 85), [83, 84]⟩]
def m53r20 : List MOper := [⟨.mv (.tmp 14), none, (some 86), [14]⟩,
  ⟨.mv (.tmp 15), none, (some 87), [15]⟩,
  ⟨.bin .add .other (.tmp 86) (.tmp 87), none, (some 88), [86, 87]⟩,
  ⟨.conv .u64 (.tmp 88), none, (some 89), [88]⟩,
  ⟨.bin .shr .other (.tmp 89) (.lit (.int .u64 1)), none, (some 90), [89]⟩,
  ⟨.conv .i64 (.tmp 90), none, (some 91), [90]⟩,
  ⟨.mv (.tmp 91), none, (some 16), [91]⟩]
def m53r21 : List MOper := [⟨.mv (.tmp 4), none, (some 92), [4]⟩,
  ⟨.mv (.tmp 0), none, (some 93), [0]⟩,
  ⟨.mv (.tmp 2), none, (some 94), [2]⟩,
  ⟨.iaddr 1 (.tmp 93) (.tmp 94), none, (some 95), [93, 94]⟩,
  ⟨.load none (.tmp 95), none, (some 96), [95]⟩,
  ⟨.mv (.tmp 0), none, (some 97), [0]⟩,
  ⟨.mv (.tmp 16), none, (some 98), [16]⟩,
  ⟨.iaddr 1 (.tmp 97) (.tmp 98), none, (some 99), [97, 98]⟩,
  ⟨.load none (.tmp 99), none, (some 100), [99]⟩]
def m53r22 : List MOper := [⟨.callv (.tmp 92) [(.tmp 96), (.tmp 100)], none, (some 101), [92, 96, 100]⟩,
  ⟨.bin .lss .other (.tmp 101) (.lit (.int .i64 0)), none, (some 102), [101]⟩,
  ⟨.un .not (.tmp 102), none, (some 103), [102]⟩]
def m53r23 : List MOper := [⟨.mv (.tmp 16), none, (some 104), [16]⟩,
  ⟨.bin .add .other (.tmp 104) (.lit (.int .i64 1)), none, (some 105), [104]⟩,
  ⟨.mv (.tmp 105), none, (some 14), [105]⟩]
def m53r24 : List MOper := [⟨.mv (.tmp 16), none, (some 106), [16]⟩,
  ⟨.mv (.tmp 106), none, (some 15), [106]⟩]
def m53l25 : MCode := (.seq (.seq (.region m53r19 [0, 2, 4, 14, 15, 85])
  (.cond (.tmp 85)
  .skip
  (.exit 4)))
  (.block 5 (.seq (.region m53r20 [0, 2, 4, 14, 15, 16])
  (.seq (.dregion m53r21 m53r22 [] [0, 2, 4, 14, 15, 16, 103])
  (.cond (.tmp 103)
  (.region m53r23 [0, 2, 4, 14, 15])
  (.region m53r24 [0, 2, 4, 14, 15]))))))
def m53r26 : List MOper := [⟨.mv (.tmp 2), none, (some 107), [2]⟩,
  ⟨.mv (.tmp 107), none, (some 17), [107]⟩]
def m53r27 : List MOper := [⟨.mv (.tmp 17), none, (some 108), [17]⟩,
  ⟨.mv (.tmp 14), none, (some 109), [14]⟩,
  ⟨.bin .gtr .other (.tmp 108) (.tmp 109), none, (some 110), [108, 109]⟩]
def m53r28 : List MOper := [⟨.mv (.tmp 0), none, (some 113), [0]⟩,
  ⟨.mv (.tmp 17), none, (some 114), [17]⟩,
  ⟨.mv (.tmp 0), none, (some 115), [0]⟩,
  ⟨.mv (.tmp 17), none, (some 116), [17]⟩,
  ⟨.bin .sub .other (.tmp 116) (.lit (.int .i64 1)), none, (some 117), [116]⟩,
  ⟨.mv (.tmp 0), none, (some 118), [0]⟩,
  ⟨.mv (.tmp 17), none, (some 119), [17]⟩,
  ⟨.bin .sub .other (.tmp 119) (.lit (.int .i64 1)), none, (some 120), [119]⟩,
  ⟨.iaddr 1 (.tmp 118) (.tmp 120), none, (some 121), [118, 120]⟩,
  ⟨.load none (.tmp 121), none, (some 122), [121]⟩,
  ⟨.mv (.tmp 0), none, (some 123), [0]⟩,
  ⟨.mv (.tmp 17), none, (some 124), [17]⟩,
  ⟨.iaddr 1 (.tmp 123) (.tmp 124), none, (some 125), [123, 124]⟩,
  ⟨.load none (.tmp 125), none, (some 126), [125]⟩]
def m53r29 : List MOper := [⟨.iaddr 1 (.tmp 113) (.tmp 114), none, (some 127), [113, 114]⟩,
  ⟨.store 1 (.tmp 127) (.tmp 122), none, none, [127, 122]⟩,
  ⟨.iaddr 1 (.tmp 115) (.tmp 117), none, (some 128), [115, 117]⟩,
  ⟨.store 1 (.tmp 128) (.tmp 126), none, none, [128, 126]⟩]
def m53r30 : List MOper := [⟨.mv (.tmp 17), none, (some 111), [17]⟩,
  ⟨.bin .sub .other (.tmp 111) (.lit (.int .i64 1)), none, (some 112), [111]⟩,
  ⟨.mv (.tmp 112), none, (some 17), [112]⟩]
def m53l31 : MCode := (.seq (.seq (.region m53r27 [0, 14, 17, 110])
  (.cond (.tmp 110)
  .skip
  (.exit 6)))
  (.seq (.block 7 (.dregion m53r28 m53r29 [] [0, 14, 17]))
  (.region m53r30 [0, 14, 17])))
def m53r32 : List MOper := [⟨.mv (.tmp 1), none, (some 129), [1]⟩,
  ⟨.mv (.tmp 3), none, (some 130), [3]⟩,
  ⟨.bin .add .other (.tmp 129) (.tmp 130), none, (some 131), [129, 130]⟩,
  ⟨.conv .u64 (.tmp 131), none, (some 132), [131]⟩,
  ⟨.bin .shr .other (.tmp 132) (.lit (.int .u64 1)), none, (some 133), [132]⟩,
  ⟨.conv .i64 (.tmp 133), none, (some 134), [133]⟩,
  ⟨.mv (.tmp 134), none, (some 18), [134]⟩]
def m53r33 : List MOper := [⟨.mv (.tmp 18), none, (some 135), [18]⟩,
  ⟨.mv (.tmp 2), none, (some 136), [2]⟩,
  ⟨.bin .add .other (.tmp 135) (.tmp 136), none, (some 137), [135, 136]⟩,
  ⟨.mv (.tmp 137), none, (some 19), [137]⟩]
def m53r34 : List MOper := [⟨.mv (.lit (.int .i64 0)), none, (some 20), []⟩,
  ⟨.mv (.lit (.int .i64 0)), none, (some 21), []⟩]
def m53r35 : List MOper := [⟨.mv (.tmp 2), none, (some 138), [2]⟩,
  ⟨.mv (.tmp 18), none, (some 139), [18]⟩,
  ⟨.bin .gtr .other (.tmp 138) (.tmp 139), none, (some 140), [138, 139]⟩]
def m53r36 : List MOper := [⟨.mv (.tmp 19), none, (some 141), [19]⟩,
  ⟨.mv (.tmp 3), none, (some 142), [3]⟩,
  ⟨.bin .sub .other (.tmp 141) (.tmp 142), none, (some 143), [141, 142]⟩,
  ⟨.mv (.tmp 143), none, (some 20), [143]⟩]
def m53r37 : List MOper := [⟨.mv (.tmp 18), none, (some 144), [18]⟩,
  ⟨.mv (.tmp 144), none, (some 21), [144]⟩]
def m53r38 : List MOper := [⟨.mv (.tmp 1), none, (some 145), [1]⟩,
  ⟨.mv (.tmp 145), none, (some 20), [145]⟩]
def m53r39 : List MOper := [⟨.mv (.tmp 2), none, (some 146), [2]⟩,
  ⟨.mv (.tmp 146), none, (some 21), [146]⟩]
def m53r40 : List MOper := [⟨.mv (.tmp 19), none, (some 147), [19]⟩,
  ⟨.bin .sub .other (.tmp 147) (.lit (.int .i64 1)), none, (some 148), [147]⟩,
  ⟨.mv (.tmp 148), none, (some 22), [148]⟩]
def m53r41 : List MOper := [⟨.mv (.tmp 20), none, (some 149), [20]⟩,
  ⟨.mv (.tmp 21), none, (some 150), [21]⟩,
  ⟨.bin .lss .other (.tmp 149) (.tmp 150), none, (some 151), [149, 150]⟩]
def m53r42 : List MOper := [⟨.mv (.tmp 20), none, (some 152), [20]⟩,
  ⟨.mv (.tmp 21), none, (some 153), [21]⟩,
  ⟨.bin .add .other (.tmp 152) (.tmp 153), none, (some 154), [152, 153]⟩,
  ⟨.conv .u64 (.tmp 154), none, (some 155), [154]⟩,
  ⟨.bin .shr .other (.tmp 155) (.lit (.int .u64 1)), none, (some 156), [155]⟩,
  ⟨.conv .i64 (.tmp 156), none, (some 157), [156]⟩,
  ⟨.mv (.tmp 157), none, (some 23), [157]⟩]
def m53r43 : List MOper := [⟨.mv (.tmp 4), none, (some 158), [4]⟩,
  ⟨.mv (.tmp 0), none, (some 159), [0]⟩,
  ⟨.mv (.tmp 22), none, (some 160), [22]⟩,
  ⟨.mv (.tmp 23), none, (some 161), [23]⟩,
  ⟨.bin .sub .other (.tmp 160) (.tmp 161), none, (some 162), [160, 161]⟩,
  ⟨.iaddr 1 (.tmp 159) (.tmp 162), none, (some 163), [159, 162]⟩,
  ⟨.load none (.tmp 163), none, (some 164), [163]⟩,
  ⟨.mv (.tmp 0), none, (some 165), [0]⟩,
  ⟨.mv (.tmp 23), none, (some 166), [23]⟩,
  ⟨.iaddr 1 (.tmp 165) (.tmp 166), none, (some 167), [165, 166]⟩,
  ⟨.load none (.tmp 167), none, (some 168), [167]⟩]
def m53r44 : List MOper := [⟨.callv (.tmp 158) [(.tmp 164), (.tmp 168)], none, (some 169), [158, 164, 168]⟩,
  ⟨.bin .lss .other (.tmp 169) (.lit (.int .i64 0)), none, (some 170), [169]⟩,
  ⟨.un .not (.tmp 170), none, (some 171), [170]⟩]
def m53r45 : List MOper := [⟨.mv (.tmp 23), none, (some 172), [23]⟩,
  ⟨.bin .add .other (.tmp 172) (.lit (.int .i64 1)), none, (some 173), [172]⟩,
  ⟨.mv (.tmp 173), none, (some 20), [173]⟩]
def m53r46 : List MOper := [⟨.mv (.tmp 23), none, (some 174), [23]⟩,
  ⟨.mv (.tmp 174), none, (some 21), [174]⟩]
def m53l47 : MCode := (.seq (.seq (.region m53r41 [0, 1, 2, 3, 4, 18, 19, 20, 21, 22, 151])
  (.cond (.tmp 151)
  .skip
  (.exit 8)))
  (.block 9 (.seq (.region m53r42 [0, 1, 2, 3, 4, 18, 19, 20, 21, 22, 23])
  (.seq (.dregion m53r43 m53r44 [] [0, 1, 2, 3, 4, 18, 19, 20, 21, 22, 23, 171])
  (.cond (.tmp 171)
  (.region m53r45 [0, 1, 2, 3, 4, 18, 19, 20, 21, 22])
  (.region m53r46 [0, 1, 2, 3, 4, 18, 19, 20, 21, 22]))))))
def m53r48 : List MOper := [⟨.mv (.tmp 19), none, (some 175), [19]⟩,
  ⟨.mv (.tmp 20), none, (some 176), [20]⟩,
  ⟨.bin .sub .other (.tmp 175) (.tmp 176), none, (some 177), [175, 176]⟩,
  ⟨.mv (.tmp 177), none, (some 24), [177]⟩]
def m53r49 : List MOper := [⟨.mv (.tmp 20), none, (some 178), [20]⟩,
  ⟨.mv (.tmp 2), none, (some 179), [2]⟩,
  ⟨.bin .lss .other (.tmp 178) (.tmp 179), none, (some 180), [178, 179]⟩,
  ⟨.mv (.tmp 180), none, (some 181), [180]⟩,
  ⟨.mv (.tmp 2), (some (181, true)), (some 182), [2]⟩,
  ⟨.mv (.tmp 24), (some (181, true)), (some 183), [24]⟩,
  ⟨.bin .lss .other (.tmp 182) (.tmp 183), (some (181, true)), (some 184), [182, 183]⟩,
  ⟨.pick (.tmp 181) (.tmp 184) (.lit (.bool false)), none, (some 185), [181, 184]⟩]
def m53r50 : List MOper := [⟨.mv (.tmp 0), none, (some 186), [0]⟩,
  ⟨.mv (.tmp 20), none, (some 187), [20]⟩,
  ⟨.mv (.tmp 2), none, (some 188), [2]⟩,
  ⟨.mv (.tmp 24), none, (some 189), [24]⟩,
  ⟨.mv (.tmp 4), none, (some 190), [4]⟩,
  ⟨.call 60 [(.tmp 186), (.tmp 187), (.tmp 188), (.tmp 189), (.tmp 190)], none, (some 191), [186, 187, 188, 189, 190]⟩]
def m53r51 : List MOper := [⟨.mv (.tmp 1), none, (some 192), [1]⟩,
  ⟨.mv (.tmp 20), none, (some 193), [20]⟩,
  ⟨.bin .lss .other (.tmp 192) (.tmp 193), none, (some 194), [192, 193]⟩,
  ⟨.mv (.tmp 194), none, (some 195), [194]⟩,
  ⟨.mv (.tmp 20), (some (195, true)), (some 196), [20]⟩,
  ⟨.mv (.tmp 18), (some (195, true)), (some 197), [18]⟩,
  ⟨.bin .lss .other (.tmp 196) (.tmp 197), (some (195, true)), (some 198), [196, 197]⟩,
  ⟨.pick (.tmp 195) (.tmp 198) (.lit (.bool false)), none, (some 199), [195, 198]⟩]
def m53r52 : List MOper := [⟨.mv (.tmp 0), none, (some 200), [0]⟩,
  ⟨.mv (.tmp 1), none, (some 201), [1]⟩,
  ⟨.mv (.tmp 20), none, (some 202), [20]⟩,
  ⟨.mv (.tmp 18), none, (some 203), [18]⟩,
  ⟨.mv (.tmp 4), none, (some 204), [4]⟩,
  ⟨.call 53 [(.tmp 200), (.tmp 201), (.tmp 202), (.tmp 203), (.tmp 204)], none, (some 205), [200, 201, 202, 203, 204]⟩]
def m53r53 : List MOper := [⟨.mv (.tmp 18), none, (some 206), [18]⟩,
  ⟨.mv (.tmp 24), none, (some 207), [24]⟩,
  ⟨.bin .lss .other (.tmp 206) (.tmp 207), none, (some 208), [206, 207]⟩,
  ⟨.mv (.tmp 208), none, (some 209), [208]⟩,
  ⟨.mv (.tmp 24), (some (209, true)), (some 210), [24]⟩,
  ⟨.mv (.tmp 3), (some (209, true)), (some 211), [3]⟩,
  ⟨.bin .lss .other (.tmp 210) (.tmp 211), (some (209, true)), (some 212), [210, 211]⟩,
  ⟨.pick (.tmp 209) (.tmp 212) (.lit (.bool false)), none, (some 213), [209, 212]⟩]
def m53r54 : List MOper := [⟨.mv (.tmp 0), none, (some 214), [0]⟩,
  ⟨.mv (.tmp 18), none, (some 215), [18]⟩,
  ⟨.mv (.tmp 24), none, (some 216), [24]⟩,
  ⟨.mv (.tmp 3), none, (some 217), [3]⟩,
  ⟨.mv (.tmp 4), none, (some 218), [4]⟩,
  ⟨.call 53 [(.tmp 214), (.tmp 215), (.tmp 216), (.tmp 217), (.tmp 218)], none, (some 219), [214, 215, 216, 217, 218]⟩]
def m53 : MFunc := ⟨220, [],
  (.seq (.seq (.region m53r0 [0, 1, 2, 3, 4, 28])
  (.cond (.tmp 28)
  (.seq (.region m53r1 [0, 1, 3, 4, 10])
  (.seq (.region m53r2 [0, 1, 4, 10, 11])
  (.seq (.block 0 (.loop [0, 1, 4, 10, 11] m53l9))
  (.seq (.seq (.region m53r10 [0, 10, 13])
  (.block 2 (.loop [0, 10, 13] m53l15)))
  .ret))))
  .skip))
  (.seq (.seq (.region m53r16 [0, 1, 2, 3, 4, 80])
  (.cond (.tmp 80)
  (.seq (.region m53r17 [0, 2, 4, 14])
  (.seq (.region m53r18 [0, 2, 4, 14, 15])
  (.seq (.block 4 (.loop [0, 2, 4, 14, 15] m53l25))
  (.seq (.seq (.region m53r26 [0, 14, 17])
  (.block 6 (.loop [0, 14, 17] m53l31)))
  .ret))))
  .skip))
  (.seq (.region m53r32 [0, 1, 2, 3, 4, 18])
  (.seq (.region m53r33 [0, 1, 2, 3, 4, 18, 19])
  (.seq (.region m53r34 [0, 1, 2, 3, 4, 18, 19])
  (.seq (.seq (.region m53r35 [0, 1, 2, 3, 4, 18, 19, 140])
  (.cond (.tmp 140)
  (.seq (.region m53r36 [0, 1, 2, 3, 4, 18, 19, 20])
  (.region m53r37 [0, 1, 2, 3, 4, 18, 19, 20, 21]))
  (.seq (.region m53r38 [0, 1, 2, 3, 4, 18, 19, 20])
  (.region m53r39 [0, 1, 2, 3, 4, 18, 19, 20, 21]))))
  (.seq (.region m53r40 [0, 1, 2, 3, 4, 18, 19, 20, 21, 22])
  (.seq (.block 8 (.loop [0, 1, 2, 3, 4, 18, 19, 20, 21, 22] m53l47))
  (.seq (.region m53r48 [0, 1, 2, 3, 4, 18, 20, 24])
  (.seq (.seq (.region m53r49 [0, 1, 2, 3, 4, 18, 20, 24, 185])
  (.cond (.tmp 185)
  (.region m53r50 [0, 1, 3, 4, 18, 20, 24])
  .skip))
  (.seq (.seq (.region m53r51 [0, 1, 3, 4, 18, 20, 24, 199])
  (.cond (.tmp 199)
  (.region m53r52 [0, 3, 4, 18, 24])
  .skip))
  (.seq (.region m53r53 [0, 3, 4, 18, 24, 213])
  (.cond (.tmp 213)
  (.region m53r54 [])
  .skip)))))))))))))⟩
def h53 : List RH := [⟨[0, 1, 2, 3, 4, 28], 0, false, []⟩, ⟨[0, 1, 3, 4, 10], 0, false, []⟩, ⟨[0, 1, 4, 10, 11], 0, false, []⟩, ⟨[0, 1, 4, 10, 11], 0, false, []⟩, ⟨[0, 1, 4, 10, 11, 33], 0, false, []⟩, ⟨[0, 1, 4, 10, 11, 12], 0, false, []⟩, ⟨[0, 1, 4, 10, 11, 12, 50], 9, false, []⟩, ⟨[0, 1, 4, 10, 11], 0, false, []⟩, ⟨[0, 1, 4, 10, 11], 0, false, []⟩, ⟨[0, 10, 13], 0, false, []⟩, ⟨[0, 10, 13], 0, false, []⟩, ⟨[0, 10, 13, 58], 0, false, []⟩, ⟨[0, 10, 13], 14, false, []⟩, ⟨[0, 10, 13], 0, false, []⟩, ⟨[0, 1, 2, 3, 4, 80], 0, false, []⟩, ⟨[0, 2, 4, 14], 0, false, []⟩, ⟨[0, 2, 4, 14, 15], 0, false, []⟩, ⟨[0, 2, 4, 14, 15], 0, false, []⟩, ⟨[0, 2, 4, 14, 15, 85], 0, false, []⟩, ⟨[0, 2, 4, 14, 15, 16], 0, false, []⟩, ⟨[0, 2, 4, 14, 15, 16, 103], 9, false, []⟩, ⟨[0, 2, 4, 14, 15], 0, false, []⟩, ⟨[0, 2, 4, 14, 15], 0, false, []⟩, ⟨[0, 14, 17], 0, false, []⟩, ⟨[0, 14, 17], 0, false, []⟩, ⟨[0, 14, 17, 110], 0, false, []⟩, ⟨[0, 14, 17], 14, false, []⟩, ⟨[0, 14, 17], 0, false, []⟩, ⟨[0, 1, 2, 3, 4, 18], 0, false, []⟩, ⟨[0, 1, 2, 3, 4, 18, 19], 0, false, []⟩, ⟨[0, 1, 2, 3, 4, 18, 19], 0, false, []⟩, ⟨[0, 1, 2, 3, 4, 18, 19, 140], 0, false, []⟩, ⟨[0, 1, 2, 3, 4, 18, 19, 20], 0, false, []⟩, ⟨[0, 1, 2, 3, 4, 18, 19, 20, 21], 0, false, []⟩, ⟨[0, 1, 2, 3, 4, 18, 19, 20], 0, false, []⟩, ⟨[0, 1, 2, 3, 4, 18, 19, 20, 21], 0, false, []⟩, ⟨[0, 1, 2, 3, 4, 18, 19, 20, 21, 22], 0, false, []⟩, ⟨[0, 1, 2, 3, 4, 18, 19, 20, 21, 22], 0, false, []⟩, ⟨[0, 1, 2, 3, 4, 18, 19, 20, 21, 22, 151], 0, false, []⟩, ⟨[0, 1, 2, 3, 4, 18, 19, 20, 21, 22, 23], 0, false, []⟩, ⟨[0, 1, 2, 3, 4, 18, 19, 20, 21, 22, 23, 171], 11, false, []⟩, ⟨[0, 1, 2, 3, 4, 18, 19, 20, 21, 22], 0, false, []⟩, ⟨[0, 1, 2, 3, 4, 18, 19, 20, 21, 22], 0, false, []⟩, ⟨[0, 1, 2, 3, 4, 18, 20, 24], 0, false, []⟩, ⟨[0, 1, 2, 3, 4, 18, 20, 24, 185], 0, false, []⟩, ⟨[0, 1, 3, 4, 18, 20, 24], 0, false, []⟩, ⟨[0, 1, 3, 4, 18, 20, 24, 199], 0, false, []⟩, ⟨[0, 3, 4, 18, 24], 0, false, []⟩, ⟨[0, 3, 4, 18, 24, 213], 0, false, []⟩, ⟨[], 0, false, []⟩]
theorem m53_ok : cmpFn Try.prog 53 h53 = some m53 := by kernel_rfl

/- slices.siftDownOrdered[int] -/
def m54r0 : List MOper := [⟨.mv (.tmp 1), none, (some 10), [1]⟩,
  ⟨.mv (.tmp 10), none, (some 8), [10]⟩]
def m54r1 : List MOper := [⟨.mv (.tmp 8), none, (some 11), [8]⟩,
  ⟨.bin .mul .other (.lit (.int .i64 2)) (.tmp 11), none, (some 12), [11]⟩,
  ⟨.bin .add .other (.tmp 12) (.lit (.int .i64 1)), none, (some 13), [12]⟩,
  ⟨.mv (.tmp 13), none, (some 9), [13]⟩]
def m54r2 : List MOper := [⟨.mv (.tmp 9), none, (some 14), [9]⟩,
  ⟨.mv (.tmp 2), none, (some 15), [2]⟩,
  ⟨.bin .geq .other (.tmp 14) (.tmp 15), none, (some 16), [14, 15]⟩]
def m54r3 : List MOper := [⟨.mv (.tmp 9), none, (some 17), [9]⟩,
  ⟨.bin .add .other (.tmp 17) (.lit (.int .i64 1)), none, (some 18), [17]⟩,
  ⟨.mv (.tmp 2), none, (some 19), [2]⟩,
  ⟨.bin .lss .other (.tmp 18) (.tmp 19), none, (some 20), [18, 19]⟩,
  ⟨.mv (.tmp 20), none, (some 21), [20]⟩,
  ⟨.mv (.tmp 0), (some (21, true)), (some 22), [0]⟩,
  ⟨.mv (.tmp 3), (some (21, true)), (some 23), [3]⟩,
  ⟨.mv (.tmp 9), (some (21, true)), (some 24), [9]⟩,
  ⟨.bin .add .other (.tmp 23) (.tmp 24), (some (21, true)), (some 25), [23, 24]⟩,
  ⟨.iaddr 1 (.tmp 22) (.tmp 25), (some (21, true)), (some 26), [22, 25]⟩,
  ⟨.load none (.tmp 26), (some (21, true)), (some 27), [26]⟩,
  ⟨.mv (.tmp 0), (some (21, true)), (some 28), [0]⟩,
  ⟨.mv (.tmp 3), (some (21, true)), (some 29), [3]⟩,
  ⟨.mv (.tmp 9), (some (21, true)), (some 30), [9]⟩,
  ⟨.bin .add .other (.tmp 29) (.tmp 30), (some (21, true)), (some 31), [29, 30]⟩,
  ⟨.bin .add .other (.tmp 31) (.lit (.int .i64 1)), (some (21, true)), (some 32), [31]⟩,
  ⟨.iaddr 1 (.tmp 28) (.tmp 32), (some (21, true)), (some 33), [28, 32]⟩,
  ⟨.load none (.tmp 33), (some (21, true)), (some 34), [33]⟩]
def m54r4 : List MOper := [⟨.call 47 [(.tmp 27), (.tmp 34)], (some (21, true)), (some 35), [27, 34]⟩,
  ⟨.pick (.tmp 21) (.tmp 35) (.lit (.bool false)), none, (some 36), [21, 35]⟩]
def m54r5 : List MOper := [⟨.mv (.tmp 9), none, (some 37), [9]⟩,
  ⟨.bin .add .other (.tmp 37) (.lit (.int .i64 1)), none, (some 38), [37]⟩,
  ⟨.mv (.tmp 38), none, (some 9), [38]⟩]
def m54r6 : List MOper := [⟨.mv (.tmp 0), none, (some 39), [0]⟩,
  ⟨.mv (.tmp 3), none, (some 40), [3]⟩,
  ⟨.mv (.tmp 8), none, (some 41), [8]⟩,
  ⟨.bin .add .other (.tmp 40) (.tmp 41), none, (some 42), [40, 41]⟩,
  ⟨.iaddr 1 (.tmp 39) (.tmp 42), none, (some 43), [39, 42]⟩,
  ⟨.load none (.tmp 43), none, (some 44), [43]⟩,
  ⟨.mv (.tmp 0), none, (some 45), [0]⟩,
  ⟨.mv (.tmp 3), none, (some 46), [3]⟩,
  ⟨.mv (.tmp 9), none, (some 47), [9]⟩,
  ⟨.bin .add .other (.tmp 46) (.tmp 47), none, (some 48), [46, 47]⟩,
  ⟨.iaddr 1 (.tmp 45) (.tmp 48), none, (some 49), [45, 48]⟩,
  ⟨.load none (.tmp 49), none, (some 50), [49]⟩]
def m54r7 : List MOper := [⟨.call 47 [(.tmp 44), (.tmp 50)], none, (some 51), [44, 50]⟩,
  ⟨.un .not (.tmp 51), none, (some 52), [51]⟩]
def m54r8 : List MOper := [⟨.mv (.tmp 0), none, (some 53), [0]⟩,
  ⟨.mv (.tmp 3), none, (some 54), [3]⟩,
  ⟨.mv (.tmp 8), none, (some 55), [8]⟩,
  ⟨.bin .add .other (.tmp 54) (.tmp 55), none, (some 56), [54, 55]⟩,
  ⟨.mv (.tmp 0), none, (some 57), [0]⟩,
  ⟨.mv (.tmp 3), none, (some 58), [3]⟩,
  ⟨.mv (.tmp 9), none, (some 59), [9]⟩,
  ⟨.bin .add .other (.tmp 58) (.tmp 59), none, (some 60), [58, 59]⟩,
  ⟨.mv (.tmp 0), none, (some 61), [0]⟩,
  ⟨.mv (.tmp 3), none, (some 62), [3]⟩,
  ⟨.mv (.tmp 9), none, (some 63), [9]⟩,
  ⟨.bin .add .other (.tmp 62) (.tmp 63), none, (some 64), [62, 63]⟩,
  ⟨.iaddr 1 (.tmp 61) (.tmp 64), none, (some 65), [61, 64]⟩,
  ⟨.load none (.tmp 65), none, (some 66), [65]⟩,
  ⟨.mv (.tmp 0), none, (some 67), [0]⟩,
  ⟨.mv (.tmp 3), none, (some 68), [3]⟩,
  ⟨.mv (.tmp 8), none, (some 69), [8]⟩,
  ⟨.bin .add .other (.tmp 68) (.tmp 69), none, (some 70), [68, 69]⟩,
  ⟨.iaddr 1 (.tmp 67) (.tmp 70), none, (some 71), [67, 70]⟩,
  ⟨.load none (.tmp 71), none, (some 72), [71]⟩]
def m54r9 : List MOper := [⟨.iaddr 1 (.tmp 53) (.tmp 56), none, (some 73), [53, 56]⟩,
  ⟨.store 1 (.tmp 73) (.tmp 66), none, none, [73, 66]⟩,
  ⟨.iaddr 1 (.tmp 57) (.tmp 60), none, (some 74), [57, 60]⟩,
  ⟨.store 1 (.tmp 74) (.tmp 72), none, none, [74, 72]⟩]
def m54r10 : List MOper := [⟨.mv (.tmp 9), none, (some 75), [9]⟩,
  ⟨.mv (.tmp 75), none, (some 8), [75]⟩]
def m54l11 : MCode := (.block 1 (.seq (.region m54r1 [0, 2, 3, 8, 9])
  (.seq (.seq (.region m54r2 [0, 2, 3, 8, 9, 16])
  (.cond (.tmp 16)
  (.exit 0)
  .skip))
  (.seq (.seq (.dregion m54r3 m54r4 [] [0, 2, 3, 8, 9, 36])
  (.cond (.tmp 36)
  (.region m54r5 [0, 2, 3, 8, 9])
  .skip))
  (.seq (.seq (.dregion m54r6 m54r7 [] [0, 2, 3, 8, 9, 52])
  (.cond (.tmp 52)
  .ret
  .skip))
  (.seq (.dregion m54r8 m54r9 [] [0, 2, 3, 9])
  (.region m54r10 [0, 2, 3, 8])))))))
def m54 : MFunc := ⟨76, [],
  (.seq (.region m54r0 [0, 2, 3, 8])
  (.block 0 (.loop [0, 2, 3, 8] m54l11)))⟩
def h54 : List RH := [⟨[0, 2, 3, 8], 0, false, []⟩, ⟨[0, 2, 3, 8], 0, false, []⟩, ⟨[0, 2, 3, 8, 9], 0, false, []⟩, ⟨[0, 2, 3, 8, 9, 16], 0, false, []⟩, ⟨[0, 2, 3, 8, 9, 36], 18, false, []⟩, ⟨[0, 2, 3, 8, 9], 0, false, []⟩, ⟨[0, 2, 3, 8, 9, 52], 12, false, []⟩, ⟨[0, 2, 3, 9], 20, false, []⟩, ⟨[0, 2, 3, 8], 0, false, []⟩]
theorem m54_ok : cmpFn Try.prog 54 h54 = some m54 := by kernel_rfl

/- slices.nextPowerOfTwo -/
def m55r0 : List MOper := [⟨.mv (.lit (.int .u64 0)), none, (some 2), []⟩]
def m55r1 : List MOper := [⟨.mv (.tmp 0), none, (some 3), [0]⟩,
  ⟨.conv .u64 (.tmp 3), none, (some 4), [3]⟩,
  ⟨.call 38 [(.tmp 4)], none, (some 5), [4]⟩,
  ⟨.bin .shl .other (.lit (.int .u64 1)) (.tmp 5), none, (some 6), [5]⟩,
  ⟨.mv (.tmp 6), none, (some 2), [6]⟩]
def m55 : MFunc := ⟨7, [.tmp 2],
  (.seq (.region m55r0 [0])
  (.seq (.region m55r1 [2])
  .ret))⟩
def h55 : List RH := [⟨[0], 0, false, []⟩, ⟨[2], 0, false, []⟩]
theorem m55_ok : cmpFn Try.prog 55 h55 = some m55 := by kernel_rfl

/- (*slices.xorshift).Next -/
def m56r0 : List MOper := [⟨.mv (.lit (.int .u64 0)), none, (some 2), []⟩]
def m56r1 : List MOper := [⟨.mv (.tmp 0), none, (some 3), [0]⟩,
  ⟨.nilchk (.tmp 3), none, (some 4), [3]⟩,
  ⟨.load none (.tmp 4), none, (some 5), [4]⟩]
def m56r2 : List MOper := [⟨.mv (.tmp 0), none, (some 6), [0]⟩,
  ⟨.nilchk (.tmp 6), none, (some 7), [6]⟩,
  ⟨.load none (.tmp 7), none, (some 8), [7]⟩,
  ⟨.bin .shl .other (.tmp 8) (.lit (.int .u64 13)), none, (some 9), [8]⟩,
  ⟨.bin .xor .other (.tmp 5) (.tmp 9), none, (some 10), [5, 9]⟩,
  ⟨.nilchk (.tmp 3), none, (some 11), [3]⟩,
  ⟨.store 1 (.tmp 11) (.tmp 10), none, none, [11, 10]⟩]
def m56r3 : List MOper := [⟨.load none (.tmp 4), none, (some 5), [4]⟩]
def m56r4 : List MOper := [⟨.load none (.tmp 4), none, (some 5), [4]⟩]
def m56r5 : List MOper := [⟨.load none (.tmp 4), none, (some 5), [4]⟩]
def m56r6 : List MOper := [⟨.load none (.tmp 4), none, (some 5), [4]⟩]
def m56r7 : List MOper := [⟨.load none (.tmp 4), none, (some 5), [4]⟩]
def m56r8 : List MOper := [⟨.mv (.tmp 0), none, (some 12), [0]⟩,
  ⟨.nilchk (.tmp 12), none, (some 13), [12]⟩,
  ⟨.load none (.tmp 13), none, (some 14), [13]⟩]
def m56r9 : List MOper := [⟨.mv (.tmp 0), none, (some 15), [0]⟩,
  ⟨.nilchk (.tmp 15), none, (some 16), [15]⟩,
  ⟨.load none (.tmp 16), none, (some 17), [16]⟩,
  ⟨.bin .shr .other (.tmp 17) (.lit (.int .u64 7)), none, (some 18), [17]⟩,
  ⟨.bin .xor .other (.tmp 14) (.tmp 18), none, (some 19), [14, 18]⟩,
  ⟨.nilchk (.tmp 12), none, (some 20), [12]⟩,
  ⟨.store 1 (.tmp 20) (.tmp 19), none, none, [20, 19]⟩]
def m56r10 : List MOper := [⟨.load none (.tmp 13), none, (some 14), [13]⟩]
def m56r11 : List MOper := [⟨.load none (.tmp 13), none, (some 14), [13]⟩]
def m56r12 : List MOper := [⟨.load none (.tmp 13), none, (some 14), [13]⟩]
def m56r13 : List MOper := [⟨.load none (.tmp 13), none, (some 14), [13]⟩]
def m56r14 : List MOper := [⟨.load none (.tmp 13), none, (some 14), [13]⟩]
def m56r15 : List MOper := [⟨.mv (.tmp 0), none, (some 21), [0]⟩,
  ⟨.nilchk (.tmp 21), none, (some 22), [21]⟩,
  ⟨.load none (.tmp 22), none, (some 23), [22]⟩]
def m56r16 : List MOper := [⟨.mv (.tmp 0), none, (some 24), [0]⟩,
  ⟨.nilchk (.tmp 24), none, (some 25), [24]⟩,
  ⟨.load none (.tmp 25), none, (some 26), [25]⟩,
  ⟨.bin .shl .other (.tmp 26) (.lit (.int .u64 17)), none, (some 27), [26]⟩,
  ⟨.bin .xor .other (.tmp 23) (.tmp 27), none, (some 28), [23, 27]⟩,
  ⟨.nilchk (.tmp 21), none, (some 29), [21]⟩,
  ⟨.store 1 (.tmp 29) (.tmp 28), none, none, [29, 28]⟩]
def m56r17 : List MOper := [⟨.load none (.tmp 22), none, (some 23), [22]⟩]
def m56r18 : List MOper := [⟨.load none (.tmp 22), none, (some 23), [22]⟩]
def m56r19 : List MOper := [⟨.load none (.tmp 22), none, (some 23), [22]⟩]
def m56r20 : List MOper := [⟨.load none (.tmp 22), none, (some 23), [22]⟩]
def m56r21 : List MOper := [⟨.load none (.tmp 22), none, (some 23), [22]⟩]
def m56r22 : List MOper := [⟨.mv (.tmp 0), none, (some 30), [0]⟩,
  ⟨.nilchk (.tmp 30), none, (some 31), [30]⟩,
  ⟨.load none (.tmp 31), none, (some 32), [31]⟩,
  ⟨.mv (.tmp 32), none, (some 2), [32]⟩]
def m56 : MFunc := ⟨33, [.tmp 2],
  (.seq (.region m56r0 [0])
  (.seq (.dregion m56r1 m56r2 [m56r3, m56r4, m56r5, m56r6, m56r7, [], [], []] [0])
  (.seq (.dregion m56r8 m56r9 [m56r10, m56r11, m56r12, m56r13, m56r14, [], [], []] [0])
  (.seq (.dregion m56r15 m56r16 [m56r17, m56r18, m56r19, m56r20, m56r21, [], [], []] [0])
  (.seq (.region m56r22 [2])
  .ret)))))⟩
def h56 : List RH := [⟨[0], 0, false, []⟩, ⟨[0], 3, false, []⟩, ⟨[0], 3, false, []⟩, ⟨[0], 3, false, []⟩, ⟨[2], 0, false, []⟩]
theorem m56_ok : cmpFn Try.prog 56 h56 = some m56 := by kernel_rfl

/- slices.medianAdjacentOrdered[int] -/
def m57r0 : List MOper := [⟨.mv (.lit (.int .i64 0)), none, (some 6), []⟩]
def m57r1 : List MOper := [⟨.mv (.tmp 0), none, (some 7), [0]⟩,
  ⟨.mv (.tmp 1), none, (some 8), [1]⟩,
  ⟨.bin .sub .other (.tmp 8) (.lit (.int .i64 1)), none, (some 9), [8]⟩,
  ⟨.mv (.tmp 1), none, (some 10), [1]⟩,
  ⟨.mv (.tmp 1), none, (some 11), [1]⟩,
  ⟨.bin .add .other (.tmp 11) (.lit (.int .i64 1)), none, (some 12), [11]⟩,
  ⟨.mv (.tmp 2), none, (some 13), [2]⟩,
  ⟨.call 58 [(.tmp 7), (.tmp 9), (.tmp 10), (.tmp 12), (.tmp 13)], none, (some 14), [7, 9, 10, 12, 13]⟩,
  ⟨.mv (.tmp 14), none, (some 6), [14]⟩]
def m57 : MFunc := ⟨15, [.tmp 6],
  (.seq (.region m57r0 [0, 1, 2])
  (.seq (.region m57r1 [6])
  .ret))⟩
def h57 : List RH := [⟨[0, 1, 2], 0, false, []⟩, ⟨[6], 0, false, []⟩]
theorem m57_ok : cmpFn Try.prog 57 h57 = some m57 := by kernel_rfl

/- slices.medianOrdered[int] -/
def m58r0 : List MOper := [⟨.mv (.lit (.int .i64 0)), none, (some 10), []⟩]
def m58r1 : List MOper := [⟨.mv (.tmp 0), none, (some 12), [0]⟩,
  ⟨.mv (.tmp 1), none, (some 13), [1]⟩,
  ⟨.mv (.tmp 2), none, (some 14), [2]⟩,
  ⟨.mv (.tmp 4), none, (some 15), [4]⟩,
  ⟨.call 61 [(.tmp 12), (.tmp 13), (.tmp 14), (.tmp 15)], none, (some 16), [12, 13, 14, 15]⟩,
  ⟨.mv (.tmp 16), none, (some 11), [16]⟩,
  ⟨.ext 0 (.tmp 11), none, (some 17), [11]⟩,
  ⟨.ext 1 (.tmp 11), none, (some 18), [11]⟩,
  ⟨.mv (.tmp 17), none, (some 1), [17]⟩,
  ⟨.mv (.tmp 18), none, (some 2), [18]⟩]
def m58r2 : List MOper := [⟨.mv (.tmp 0), none, (some 20), [0]⟩,
  ⟨.mv (.tmp 2), none, (some 21), [2]⟩,
  ⟨.mv (.tmp 3), none, (some 22), [3]⟩,
  ⟨.mv (.tmp 4), none, (some 23), [4]⟩,
  ⟨.call 61 [(.tmp 20), (.tmp 21), (.tmp 22), (.tmp 23)], none, (some 24), [20, 21, 22, 23]⟩,
  ⟨.mv (.tmp 24), none, (some 19), [24]⟩,
  ⟨.ext 0 (.tmp 19), none, (some 25), [19]⟩,
  ⟨.ext 1 (.tmp 19), none, (some 26), [19]⟩,
  ⟨.mv (.tmp 25), none, (some 2), [25]⟩,
  ⟨.mv (.tmp 26), none, (some 3), [26]⟩]
def m58r3 : List MOper := [⟨.mv (.tmp 0), none, (some 28), [0]⟩,
  ⟨.mv (.tmp 1), none, (some 29), [1]⟩,
  ⟨.mv (.tmp 2), none, (some 30), [2]⟩,
  ⟨.mv (.tmp 4), none, (some 31), [4]⟩,
  ⟨.call 61 [(.tmp 28), (.tmp 29), (.tmp 30), (.tmp 31)], none, (some 32), [28, 29, 30, 31]⟩,
  ⟨.mv (.tmp 32), none, (some 27), [32]⟩,
  ⟨.ext 0 (.tmp 27), none, (some 33), [27]⟩,
  ⟨.ext 1 (.tmp 27), none, (some 34), [27]⟩,
  ⟨.mv (.tmp 33), none, (some 1), [33]⟩,
  ⟨.mv (.tmp 34), none, (some 2), [34]⟩]
def m58r4 : List MOper := [⟨.mv (.tmp 2), none, (some 35), [2]⟩,
  ⟨.mv (.tmp 35), none, (some 10), [35]⟩]
def m58 : MFunc := ⟨36, [.tmp 10],
  (.seq (.region m58r0 [0, 1, 2, 3, 4])
  (.seq (.region m58r1 [0, 1, 2, 3, 4])
  (.seq (.region m58r2 [0, 1, 2, 4])
  (.seq (.region m58r3 [2])
  (.seq (.region m58r4 [10])
  .ret)))))⟩
def h58 : List RH := [⟨[0, 1, 2, 3, 4], 0, false, []⟩, ⟨[0, 1, 2, 3, 4], 0, false, []⟩, ⟨[0, 1, 2, 4], 0, false, []⟩, ⟨[2], 0, false, []⟩, ⟨[10], 0, false, []⟩]
theorem m58_ok : cmpFn Try.prog 58 h58 = some m58 := by kernel_rfl

/- cmp.isNaN[int] -/
def m59r0 : List MOper := [⟨.mv (.lit (.bool false)), none, (some 2), []⟩]
def m59r1 : List MOper := [⟨.mv (.tmp 0), none, (some 3), [0]⟩,
  ⟨.mv (.tmp 0), none, (some 4), [0]⟩,
  ⟨.bin .neq .other (.tmp 3) (.tmp 4), none, (some 5), [3, 4]⟩,
  ⟨.mv (.tmp 5), none, (some 2), [5]⟩]
def m59 : MFunc := ⟨6, [.tmp 2],
  (.seq (.region m59r0 [0])
  (.seq (.region m59r1 [2])
  .ret))⟩
def h59 : List RH := [⟨[0], 0, false, []⟩, ⟨[2], 0, false, []⟩]
theorem m59_ok : cmpFn Try.prog 59 h59 = some m59 := by kernel_rfl

/- slices.rotateCmpFunc[int] -/
def m60r0 : List MOper := [⟨.mv (.tmp 2), none, (some 12), [2]⟩,
  ⟨.mv (.tmp 1), none, (some 13), [1]⟩,
  ⟨.bin .sub .other (.tmp 12) (.tmp 13), none, (some 14), [12, 13]⟩,
  ⟨.mv (.tmp 14), none, (some 10), [14]⟩]
def m60r1 : List MOper := [⟨.mv (.tmp 3), none, (some 15), [3]⟩,
  ⟨.mv (.tmp 2), none, (some 16), [2]⟩,
  ⟨.bin .sub .other (.tmp 15) (.tmp 16), none, (some 17), [15, 16]⟩,
  ⟨.mv (.tmp 17), none, (some 11), [17]⟩]
def m60r2 : List MOper := [⟨.mv (.tmp 10), none, (some 18), [10]⟩,
  ⟨.mv (.tmp 11), none, (some 19), [11]⟩,
  ⟨.bin .neq .other (.tmp 18) (.tmp 19), none, (some 20), [18, 19]⟩]
def m60r3 : List MOper := [⟨.mv (.tmp 10), none, (some 21), [10]⟩,
  ⟨.mv (.tmp 11), none, (some 22), [11]⟩,
  ⟨.bin .gtr .other (.tmp 21) (.tmp 22), none, (some 23), [21, 22]⟩]
def m60r4 : List MOper := [⟨.mv (.tmp 0), none, (some 24), [0]⟩,
  ⟨.mv (.tmp 2), none, (some 25), [2]⟩,
  ⟨.mv (.tmp 10), none, (some 26), [10]⟩,
  ⟨.bin .sub .other (.tmp 25) (.tmp 26), none, (some 27), [25, 26]⟩,
  ⟨.mv (.tmp 2), none, (some 28), [2]⟩,
  ⟨.mv (.tmp 11), none, (some 29), [11]⟩,
  ⟨.mv (.tmp 4), none, (some 30), [4]⟩,
  ⟨.call 62 [(.tmp 24), (.tmp 27), (.tmp 28), (.tmp 29), (.tmp 30)], none, (some 31), [24, 27, 28, 29, 30]⟩]
def m60r5 : List MOper := [⟨.mv (.tmp 10), none, (some 32), [10]⟩,
  ⟨.mv (.tmp 11), none, (some 33), [11]⟩,
  ⟨.bin .sub .other (.tmp 32) (.tmp 33), none, (some 34), [32, 33]⟩,
  ⟨.mv (.tmp 34), none, (some 10), [34]⟩]
def m60r6 : List MOper := [⟨.mv (.tmp 0), none, (some 35), [0]⟩,
  ⟨.mv (.tmp 2), none, (some 36), [2]⟩,
  ⟨.mv (.tmp 10), none, (some 37), [10]⟩,
  ⟨.bin .sub .other (.tmp 36) (.tmp 37), none, (some 38), [36, 37]⟩,
  ⟨.mv (.tmp 2), none, (some 39), [2]⟩,
  ⟨.mv (.tmp 11), none, (some 40), [11]⟩,
  ⟨.bin .add .other (.tmp 39) (.tmp 40), none, (some 41), [39, 40]⟩,
  ⟨.mv (.tmp 10), none, (some 42), [10]⟩,
  ⟨.bin .sub .other (.tmp 41) (.tmp 42), none, (some 43), [41, 42]⟩,
  ⟨.mv (.tmp 10), none, (some 44), [10]⟩,
  ⟨.mv (.tmp 4), none, (some 45), [4]⟩,
  ⟨.call 62 [(.tmp 35), (.tmp 38), (.tmp 43), (.tmp 44), (.tmp 45)], none, (some 46), [35, 38, 43, 44, 45]⟩]
def m60r7 : List MOper := [⟨.mv (.tmp 11), none, (some 47), [11]⟩,
  ⟨.mv (.tmp 10), none, (some 48), [10]⟩,
  ⟨.bin .sub .other (.tmp 47) (.tmp 48), none, (some 49), [47, 48]⟩,
  ⟨.mv (.tmp 49), none, (some 11), [49]⟩]
def m60l8 : MCode := (.seq (.seq (.region m60r2 [0, 2, 4, 10, 11, 20])
  (.cond (.tmp 20)
  .skip
  (.exit 0)))
  (.block 1 (.seq (.region m60r3 [0, 2, 4, 10, 11, 23])
  (.cond (.tmp 23)
  (.seq (.region m60r4 [0, 2, 4, 10, 11])
  (.region m60r5 [0, 2, 4, 10, 11]))
  (.seq (.region m60r6 [0, 2, 4, 10, 11])
  (.region m60r7 [0, 2, 4, 10, 11]))))))
def m60r9 : List MOper := [⟨.mv (.tmp 0), none, (some 50), [0]⟩,
  ⟨.mv (.tmp 2), none, (some 51), [2]⟩,
  ⟨.mv (.tmp 10), none, (some 52), [10]⟩,
  ⟨.bin .sub .other (.tmp 51) (.tmp 52), none, (some 53), [51, 52]⟩,
  ⟨.mv (.tmp 2), none, (some 54), [2]⟩,
  ⟨.mv (.tmp 10), none, (some 55), [10]⟩,
  ⟨.mv (.tmp 4), none, (some 56), [4]⟩,
  ⟨.call 62 [(.tmp 50), (.tmp 53), (.tmp 54), (.tmp 55), (.tmp 56)], none, (some 57), [50, 53, 54, 55, 56]⟩]
def m60 : MFunc := ⟨58, [],
  (.seq (.region m60r0 [0, 2, 3, 4, 10])
  (.seq (.region m60r1 [0, 2, 4, 10, 11])
  (.seq (.block 0 (.loop [0, 2, 4, 10, 11] m60l8))
  (.region m60r9 []))))⟩
def h60 : List RH := [⟨[0, 2, 3, 4, 10], 0, false, []⟩, ⟨[0, 2, 4, 10, 11], 0, false, []⟩, ⟨[0, 2, 4, 10, 11], 0, false, []⟩, ⟨[0, 2, 4, 10, 11, 20], 0, false, []⟩, ⟨[0, 2, 4, 10, 11, 23], 0, false, []⟩, ⟨[0, 2, 4, 10, 11], 0, false, []⟩, ⟨[0, 2, 4, 10, 11], 0, false, []⟩, ⟨[0, 2, 4, 10, 11], 0, false, []⟩, ⟨[0, 2, 4, 10, 11], 0, false, []⟩, ⟨[], 0, false, []⟩]
theorem m60_ok : cmpFn Try.prog 60 h60 = some m60 := by kernel_rfl

/- slices.order2Ordered[int] -/
def m61r0 : List MOper := [⟨.mv (.lit (.int .i64 0)), none, (some 8), []⟩,
  ⟨.mv (.lit (.int .i64 0)), none, (some 9), []⟩]
def m61r1 : List MOper := [⟨.mv (.tmp 0), none, (some 10), [0]⟩,
  ⟨.mv (.tmp 2), none, (some 11), [2]⟩,
  ⟨.iaddr 1 (.tmp 10) (.tmp 11), none, (some 12), [10, 11]⟩,
  ⟨.load none (.tmp 12), none, (some 13), [12]⟩,
  ⟨.mv (.tmp 0), none, (some 14), [0]⟩,
  ⟨.mv (.tmp 1), none, (some 15), [1]⟩,
  ⟨.iaddr 1 (.tmp 14) (.tmp 15), none, (some 16), [14, 15]⟩,
  ⟨.load none (.tmp 16), none, (some 17), [16]⟩]
def m61r2 : List MOper := [⟨.call 47 [(.tmp 13), (.tmp 17)], none, (some 18), [13, 17]⟩]
def m61r3 : List MOper := [⟨.mv (.tmp 3), none, (some 19), [3]⟩,
  ⟨.nilchk (.tmp 19), none, (some 20), [19]⟩,
  ⟨.load none (.tmp 20), none, (some 21), [20]⟩,
  ⟨.bin .add .other (.tmp 21) (.lit (.int .i64 1)), none, (some 22), [21]⟩,
  ⟨.nilchk (.tmp 19), none, (some 23), [19]⟩,
  ⟨.store 1 (.tmp 23) (.tmp 22), none, none, [23, 22]⟩]
def m61r4 : List MOper := [⟨.mv (.tmp 2), none, (some 24), [2]⟩,
  ⟨.mv (.tmp 1), none, (some 25), [1]⟩,
  ⟨.mv (.tmp 24), none, (some 8), [24]⟩,
  ⟨.mv (.tmp 25), none, (some 9), [25]⟩]
def m61r5 : List MOper := [⟨.mv (.tmp 1), none, (some 26), [1]⟩,
  ⟨.mv (.tmp 2), none, (some 27), [2]⟩,
  ⟨.mv (.tmp 26), none, (some 8), [26]⟩,
  ⟨.mv (.tmp 27), none, (some 9), [27]⟩]
def m61 : MFunc := ⟨28, [.tmp 8, .tmp 9],
  (.seq (.region m61r0 [0, 1, 2, 3])
  (.seq (.seq (.dregion m61r1 m61r2 [] [1, 2, 3, 18])
  (.cond (.tmp 18)
  (.seq (.region m61r3 [1, 2])
  (.seq (.region m61r4 [8, 9])
  .ret))
  .skip))
  (.seq (.region m61r5 [8, 9])
  .ret)))⟩
def h61 : List RH := [⟨[0, 1, 2, 3], 0, false, []⟩, ⟨[1, 2, 3, 18], 8, false, []⟩, ⟨[1, 2], 0, false, []⟩, ⟨[8, 9], 0, false, []⟩, ⟨[8, 9], 0, false, []⟩]
theorem m61_ok : cmpFn Try.prog 61 h61 = some m61 := by kernel_rfl

/- slices.swapRangeCmpFunc[int] -/
def m62r0 : List MOper := [⟨.mv (.lit (.int .i64 0)), none, (some 10), []⟩]
def m62r1 : List MOper := [⟨.mv (.tmp 10), none, (some 11), [10]⟩,
  ⟨.mv (.tmp 3), none, (some 12), [3]⟩,
  ⟨.bin .lss .other (.tmp 11) (.tmp 12), none, (some 13), [11, 12]⟩]
def m62r2 : List MOper := [⟨.mv (.tmp 0), none, (some 16), [0]⟩,
  ⟨.mv (.tmp 1), none, (some 17), [1]⟩,
  ⟨.mv (.tmp 10), none, (some 18), [10]⟩,
  ⟨.bin .add .other (.tmp 17) (.tmp 18), none, (some 19), [17, 18]⟩,
  ⟨.mv (.tmp 0), none, (some 20), [0]⟩,
  ⟨.mv (.tmp 2), none, (some 21), [2]⟩,
  ⟨.mv (.tmp 10), none, (some 22), [10]⟩,
  ⟨.bin .add .other (.tmp 21) (.tmp 22), none, (some 23), [21, 22]⟩,
  ⟨.mv (.tmp 0), none, (some 24), [0]⟩,
  ⟨.mv (.tmp 2), none, (some 25), [2]⟩,
  ⟨.mv (.tmp 10), none, (some 26), [10]⟩,
  ⟨.bin .add .other (.tmp 25) (.tmp 26), none, (some 27), [25, 26]⟩,
  ⟨.iaddr 1 (.tmp 24) (.tmp 27), none, (some 28), [24, 27]⟩,
  ⟨.load none (.tmp 28), none, (some 29), [28]⟩,
  ⟨.mv (.tmp 0), none, (some 30), [0]⟩,
  ⟨.mv (.tmp 1), none, (some 31), [1]⟩,
  ⟨.mv (.tmp 10), none, (some 32), [10]⟩,
  ⟨.bin .add .other (.tmp 31) (.tmp 32), none, (some 33), [31, 32]⟩,
  ⟨.iaddr 1 (.tmp 30) (.tmp 33), none, (some 34), [30, 33]⟩,
  ⟨.load none (.tmp 34), none, (some 35), [34]⟩]
def m62r3 : List MOper := [⟨.iaddr 1 (.tmp 16) (.tmp 19), none, (some 36), [16, 19]⟩,
  ⟨.store 1 (.tmp 36) (.tmp 29), none, none, [36, 29]⟩,
  ⟨.iaddr 1 (.tmp 20) (.tmp 23), none, (some 37), [20, 23]⟩,
  ⟨.store 1 (.tmp 37) (.tmp 35), none, none, [37, 35]⟩]
def m62r4 : List MOper := [⟨.mv (.tmp 10), none, (some 14), [10]⟩,
  ⟨.bin .add .other (.tmp 14) (.lit (.int .i64 1)), none, (some 15), [14]⟩,
  ⟨.mv (.tmp 15), none, (some 10), [15]⟩]
def m62l5 : MCode := (.seq (.seq (.region m62r1 [0, 1, 2, 3, 10, 13])
  (.cond (.tmp 13)
  .skip
  (.exit 0)))
  (.seq (.block 1 (.dregion m62r2 m62r3 [] [0, 1, 2, 3, 10]))
  (.region m62r4 [0, 1, 2, 3, 10])))
def m62 : MFunc := ⟨38, [],
  (.seq (.region m62r0 [0, 1, 2, 3, 10])
  (.block 0 (.loop [0, 1, 2, 3, 10] m62l5)))⟩
def h62 : List RH := [⟨[0, 1, 2, 3, 10], 0, false, []⟩, ⟨[0, 1, 2, 3, 10], 0, false, []⟩, ⟨[0, 1, 2, 3, 10, 13], 0, false, []⟩, ⟨[0, 1, 2, 3, 10], 20, false, []⟩, ⟨[0, 1, 2, 3, 10], 0, false, []⟩]
theorem m62_ok : cmpFn Try.prog 62 h62 = some m62 := by kernel_rfl

end Go.Ab.Try.V
