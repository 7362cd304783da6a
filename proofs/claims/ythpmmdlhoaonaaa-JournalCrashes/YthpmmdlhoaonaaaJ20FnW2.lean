/-
  The translated functions of this claim, printed by a program of ours (gen.sh), with the kernel's word that they are the translation.
  Conditions: none.
-/
import Derived.Test.YthpmmdlhoaonaaaProg
import Derived.Test.YthpmmdlhoaonaaaAbEval
import Derived.KernelRfl
namespace Go.Ab.Try.W
open Go.Proofs
/- dialtone/dialtonelaw20.write -/
def m17r0 : List MOper := [⟨.zbox [.nils, (.int .i64 0), (.int .i64 0)], none, (some 2), []⟩,
  ⟨.mv (.lit .nils), none, (some 3), []⟩,
  ⟨.mv (.lit (.bool false)), none, (some 4), []⟩]
def m17r1 : List MOper := [⟨.zbox [.nils, (.int .i64 0), (.int .i64 0)], none, (some 5), []⟩]
def m17r2 : List MOper := [⟨.mv (.lit .nils), none, (some 6), []⟩]
def m17r3 : List MOper := [⟨.mv (.lit (.int .i64 0)), none, (some 7), []⟩]
def m17r4 : List MOper := [⟨.mv (.tmp 7), none, (some 10), [7]⟩,
  ⟨.mv (.tmp 0), none, (some 11), [0]⟩,
  ⟨.len 1 (.tmp 11), none, (some 12), [11]⟩,
  ⟨.bin .lss .other (.tmp 10) (.tmp 12), none, (some 13), [10, 12]⟩]
def m17r5 : List MOper := [⟨.load (some 3) (.tmp 5), none, (some 17), [5]⟩,
  ⟨.mv (.tmp 0), none, (some 18), [0]⟩,
  ⟨.mv (.tmp 7), none, (some 19), [7]⟩,
  ⟨.iaddr 2 (.tmp 18) (.tmp 19), none, (some 20), [18, 19]⟩,
  ⟨.load (some 2) (.tmp 20), none, (some 21), [20]⟩,
  ⟨.call 25 [(.tmp 17), (.tmp 21)], none, (some 22), [17, 21]⟩,
  ⟨.mv (.tmp 22), none, (some 16), [22]⟩,
  ⟨.ext 0 (.tmp 16), none, (some 23), [16]⟩,
  ⟨.ext 1 (.tmp 16), none, (some 24), [16]⟩,
  ⟨.zbox [.nils, (.int .i64 0), (.int .i64 0)], none, (some 8), []⟩]
def m17r6 : List MOper := [⟨.store 3 (.tmp 8) (.tmp 23), none, none, [8, 23]⟩,
  ⟨.mv (.tmp 24), none, (some 9), [24]⟩]
def m17r7 : List MOper := [⟨.mv (.tmp 9), none, (some 25), [9]⟩,
  ⟨.bin .neq .other (.tmp 25) (.lit (.int .u8 0)), none, (some 26), [25]⟩,
  ⟨.mv (.tmp 26), none, (some 27), [26]⟩,
  ⟨.faddr 0 (.tmp 8), (some (27, false)), (some 28), [8]⟩,
  ⟨.load none (.tmp 28), (some (27, false)), (some 29), [28]⟩,
  ⟨.len 1 (.tmp 29), (some (27, false)), (some 30), [29]⟩,
  ⟨.faddr 0 (.tmp 5), (some (27, false)), (some 31), [5]⟩,
  ⟨.load none (.tmp 31), (some (27, false)), (some 32), [31]⟩,
  ⟨.len 1 (.tmp 32), (some (27, false)), (some 33), [32]⟩,
  ⟨.bin .add .other (.tmp 33) (.lit (.int .i64 14)), (some (27, false)), (some 34), [33]⟩,
  ⟨.mv (.tmp 0), (some (27, false)), (some 35), [0]⟩,
  ⟨.mv (.tmp 7), (some (27, false)), (some 36), [7]⟩,
  ⟨.iaddr 2 (.tmp 35) (.tmp 36), (some (27, false)), (some 37), [35, 36]⟩,
  ⟨.faddr 1 (.tmp 37), (some (27, false)), (some 38), [37]⟩,
  ⟨.load none (.tmp 38), (some (27, false)), (some 39), [38]⟩,
  ⟨.len 1 (.tmp 39), (some (27, false)), (some 40), [39]⟩,
  ⟨.bin .add .other (.tmp 34) (.tmp 40), (some (27, false)), (some 41), [34, 40]⟩,
  ⟨.bin .neq .other (.tmp 30) (.tmp 41), (some (27, false)), (some 42), [30, 41]⟩,
  ⟨.pick (.tmp 27) (.lit (.bool true)) (.tmp 42), none, (some 43), [27, 42]⟩,
  ⟨.mv (.tmp 43), none, (some 44), [43]⟩,
  ⟨.faddr 2 (.tmp 8), (some (44, false)), (some 45), [8]⟩,
  ⟨.load none (.tmp 45), (some (44, false)), (some 46), [45]⟩,
  ⟨.mv (.tmp 7), (some (44, false)), (some 47), [7]⟩,
  ⟨.bin .add .other (.tmp 47) (.lit (.int .i64 1)), (some (44, false)), (some 48), [47]⟩]
def m17r8 : List MOper := [⟨.bin .neq .other (.tmp 46) (.tmp 48), (some (44, false)), (some 49), [46, 48]⟩,
  ⟨.pick (.tmp 44) (.lit (.bool true)) (.tmp 49), none, (some 50), [44, 49]⟩,
  ⟨.mv (.tmp 50), none, (some 51), [50]⟩,
  ⟨.faddr 1 (.tmp 8), (some (51, false)), (some 52), [8]⟩,
  ⟨.load none (.tmp 52), (some (51, false)), (some 53), [52]⟩,
  ⟨.bin .neq .other (.tmp 53) (.lit (.int .i64 0)), (some (51, false)), (some 54), [53]⟩,
  ⟨.pick (.tmp 51) (.lit (.bool true)) (.tmp 54), none, (some 55), [51, 54]⟩]
def m17r9 : List MOper := [⟨.build [.nils, (.int .i64 0), (.int .i64 0)] [], none, (some 56), []⟩,
  ⟨.store 3 (.tmp 2) (.tmp 56), none, none, [2, 56]⟩,
  ⟨.mv (.lit .nils), none, (some 3), []⟩,
  ⟨.mv (.lit (.bool false)), none, (some 4), []⟩]
def m17r10 : List MOper := [⟨.load (some 3) (.tmp 8), none, (some 57), [8]⟩,
  ⟨.store 3 (.tmp 5) (.tmp 57), none, none, [5, 57]⟩]
def m17r11 : List MOper := [⟨.mv (.tmp 6), none, (some 58), [6]⟩,
  ⟨.faddr 0 (.tmp 5), none, (some 59), [5]⟩,
  ⟨.load none (.tmp 59), none, (some 60), [59]⟩,
  ⟨.len 1 (.tmp 60), none, (some 61), [60]⟩,
  ⟨.mkfrz [(.int .i64 0)] 1 [(0, (.tmp 61))], none, (some 62), [61]⟩,
  ⟨.append 1 8 (.tmp 58) (.tmp 62), none, (some 63), [58, 62]⟩,
  ⟨.mv (.tmp 63), none, (some 6), [63]⟩]
def m17r12 : List MOper := [⟨.mv (.tmp 7), none, (some 14), [7]⟩,
  ⟨.bin .add .other (.tmp 14) (.lit (.int .i64 1)), none, (some 15), [14]⟩,
  ⟨.mv (.tmp 15), none, (some 7), [15]⟩]
def m17l13 : MCode := (.seq (.seq (.seq .conv
  (.region m17r4 [0, 2, 5, 6, 7, 13]))
  (.cond (.tmp 13)
  .skip
  (.exit 0)))
  (.seq (.block 1 (.seq (.dregion m17r5 m17r6 [] [0, 2, 5, 6, 7, 8, 9])
  (.seq (.seq (.dregion m17r7 m17r8 [] [0, 2, 5, 6, 7, 8, 55])
  (.cond (.tmp 55)
  (.seq (.region m17r9 [2, 3, 4])
  .ret)
  .skip))
  (.seq (.region m17r10 [0, 2, 5, 6, 7])
  (.region m17r11 [0, 2, 5, 6, 7])))))
  (.region m17r12 [0, 2, 5, 6, 7])))
def m17r14 : List MOper := [⟨.load (some 3) (.tmp 5), none, (some 64), [5]⟩,
  ⟨.mv (.tmp 6), none, (some 65), [6]⟩,
  ⟨.store 3 (.tmp 2) (.tmp 64), none, none, [2, 64]⟩,
  ⟨.mv (.tmp 65), none, (some 3), [65]⟩,
  ⟨.mv (.lit (.bool true)), none, (some 4), []⟩]
def m17 : MFunc := ⟨66, [.cell 2 (some 3), .tmp 3, .tmp 4],
  (.seq (.region m17r0 [0, 2])
  (.seq (.region m17r1 [0, 2, 5])
  (.seq (.region m17r2 [0, 2, 5, 6])
  (.seq (.seq (.region m17r3 [0, 2, 5, 6, 7])
  (.block 0 (.loop [0, 2, 5, 6, 7] m17l13)))
  (.seq (.region m17r14 [2, 3, 4])
  .ret)))))⟩
def h17 : List RH := [⟨[0, 2], 0, false, []⟩, ⟨[0, 2, 5], 0, false, []⟩, ⟨[0, 2, 5, 6], 0, false, []⟩, ⟨[0, 2, 5, 6, 7], 0, false, []⟩, ⟨[0, 2, 5, 6, 7], 0, false, []⟩, ⟨[0, 2, 5, 6, 7, 13], 0, true, []⟩, ⟨[0, 2, 5, 6, 7, 8, 9], 10, false, []⟩, ⟨[0, 2, 5, 6, 7, 8, 55], 24, false, []⟩, ⟨[2, 3, 4], 0, false, []⟩, ⟨[0, 2, 5, 6, 7], 0, false, []⟩, ⟨[0, 2, 5, 6, 7], 0, false, []⟩, ⟨[0, 2, 5, 6, 7], 0, false, []⟩, ⟨[2, 3, 4], 0, false, []⟩]
theorem m17_ok : cmpFn Try.prog 17 h17 = some m17 := by kernel_rfl

end Go.Ab.Try.W
