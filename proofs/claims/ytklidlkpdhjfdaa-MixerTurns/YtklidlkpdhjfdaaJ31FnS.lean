/-
  The translated functions of this claim, printed by a program of ours (gen.sh), with the kernel's word that they are the translation.
  Conditions: none.
-/
import Derived.Test.YtklidlkpdhjfdaaProg
import Derived.Test.YtklidlkpdhjfdaaAbEval
import Derived.KernelRfl
namespace Go.Ab.Try.S
open Go.Proofs
/- dialtone/dialtonelaw31.MixerGains -/
def m3r0 : List MOper := [⟨.mv (.lit (.bool false)), none, (some 4), []⟩]
def m3r1 : List MOper := [⟨.mv (.tmp 0), none, (some 11), [0]⟩,
  ⟨.len 1 (.tmp 11), none, (some 12), [11]⟩,
  ⟨.bin .gtr .other (.tmp 12) (.lit (.int .i64 1000)), none, (some 13), [12]⟩]
def m3r2 : List MOper := [⟨.call 8 [], none, (some 14), []⟩,
  ⟨.mv (.tmp 14), none, (some 4), [14]⟩]
def m3r3 : List MOper := [⟨.mv (.tmp 0), none, (some 16), [0]⟩,
  ⟨.mv (.tmp 1), none, (some 17), [1]⟩,
  ⟨.call 9 [(.tmp 16), (.tmp 17)], none, (some 18), [16, 17]⟩,
  ⟨.mv (.tmp 18), none, (some 15), [18]⟩,
  ⟨.ext 0 (.tmp 15), none, (some 19), [15]⟩,
  ⟨.ext 1 (.tmp 15), none, (some 20), [15]⟩,
  ⟨.mv (.tmp 19), none, (some 5), [19]⟩,
  ⟨.mv (.tmp 20), none, (some 6), [20]⟩]
def m3r4 : List MOper := [⟨.mv (.tmp 0), none, (some 22), [0]⟩,
  ⟨.mv (.tmp 1), none, (some 23), [1]⟩,
  ⟨.call 10 [(.tmp 22), (.tmp 23)], none, (some 24), [22, 23]⟩,
  ⟨.mv (.tmp 24), none, (some 21), [24]⟩,
  ⟨.ext 0 (.tmp 21), none, (some 25), [21]⟩,
  ⟨.ext 1 (.tmp 21), none, (some 26), [21]⟩,
  ⟨.mv (.tmp 25), none, (some 7), [25]⟩,
  ⟨.mv (.tmp 26), none, (some 8), [26]⟩]
def m3r5 : List MOper := [⟨.mv (.tmp 0), none, (some 28), [0]⟩,
  ⟨.call 9 [(.tmp 28), (.lit (.int .i64 256))], none, (some 29), [28]⟩,
  ⟨.mv (.tmp 29), none, (some 27), [29]⟩,
  ⟨.ext 0 (.tmp 27), none, (some 30), [27]⟩,
  ⟨.ext 1 (.tmp 27), none, (some 31), [27]⟩,
  ⟨.mv (.tmp 30), none, (some 9), [30]⟩,
  ⟨.mv (.tmp 31), none, (some 10), [31]⟩]
def m3r6 : List MOper := [⟨.mv (.tmp 5), none, (some 32), [5]⟩,
  ⟨.mkslice [.nils] 1 [(0, (.tmp 32))], none, (some 33), [32]⟩,
  ⟨.mv (.tmp 7), none, (some 34), [7]⟩,
  ⟨.mkfrz [.nils] 1 [(0, (.tmp 34))], none, (some 35), [34]⟩,
  ⟨.call 11 [(.tmp 33), (.tmp 35)], none, (some 36), [33, 35]⟩,
  ⟨.mv (.tmp 36), none, (some 37), [36]⟩,
  ⟨.mv (.tmp 6), (some (37, true)), (some 38), [6]⟩,
  ⟨.mv (.tmp 8), (some (37, true)), (some 39), [8]⟩,
  ⟨.bin .eql .other (.tmp 38) (.tmp 39), (some (37, true)), (some 40), [38, 39]⟩,
  ⟨.pick (.tmp 37) (.tmp 40) (.lit (.bool false)), none, (some 41), [37, 40]⟩,
  ⟨.mv (.tmp 41), none, (some 42), [41]⟩,
  ⟨.mv (.tmp 10), (some (42, true)), (some 43), [10]⟩,
  ⟨.bin .eql .other (.tmp 43) (.lit (.int .u8 0)), (some (42, true)), (some 44), [43]⟩,
  ⟨.pick (.tmp 42) (.tmp 44) (.lit (.bool false)), none, (some 45), [42, 44]⟩,
  ⟨.mv (.tmp 45), none, (some 46), [45]⟩,
  ⟨.mv (.tmp 9), (some (46, true)), (some 47), [9]⟩,
  ⟨.mkslice [.nils] 1 [(0, (.tmp 47))], (some (46, true)), (some 48), [47]⟩,
  ⟨.mv (.tmp 0), (some (46, true)), (some 49), [0]⟩,
  ⟨.mkfrz [.nils] 1 [(0, (.tmp 49))], (some (46, true)), (some 50), [49]⟩,
  ⟨.call 11 [(.tmp 48), (.tmp 50)], (some (46, true)), (some 51), [48, 50]⟩,
  ⟨.pick (.tmp 46) (.tmp 51) (.lit (.bool false)), none, (some 52), [46, 51]⟩,
  ⟨.mv (.tmp 52), none, (some 53), [52]⟩,
  ⟨.call 8 [], (some (53, true)), (some 54), []⟩,
  ⟨.pick (.tmp 53) (.tmp 54) (.lit (.bool false)), none, (some 55), [53, 54]⟩,
  ⟨.mv (.tmp 55), none, (some 4), [55]⟩]
def m3 : MFunc := ⟨56, [.tmp 4],
  (.seq (.region m3r0 [0, 1])
  (.seq (.seq (.region m3r1 [0, 1, 13])
  (.cond (.tmp 13)
  (.seq (.region m3r2 [4])
  .ret)
  .skip))
  (.seq (.region m3r3 [0, 1, 5, 6])
  (.seq (.region m3r4 [0, 5, 6, 7, 8])
  (.seq (.region m3r5 [0, 5, 6, 7, 8, 9, 10])
  (.seq (.region m3r6 [4])
  .ret))))))⟩
def h3 : List RH := [⟨[0, 1], 0, false, []⟩, ⟨[0, 1, 13], 0, false, []⟩, ⟨[4], 0, false, []⟩, ⟨[0, 1, 5, 6], 0, false, []⟩, ⟨[0, 5, 6, 7, 8], 0, false, []⟩, ⟨[0, 5, 6, 7, 8, 9, 10], 0, false, []⟩, ⟨[4], 0, false, []⟩]
theorem m3_ok : cmpFn Try.prog 3 h3 = some m3 := by kernel_rfl

/- dialtone/dialtonelaw31.MixerTurns -/
def m4r0 : List MOper := [⟨.mv (.lit (.bool false)), none, (some 6), []⟩]
def m4r1 : List MOper := [⟨.mv (.tmp 0), none, (some 15), [0]⟩,
  ⟨.call 12 [(.tmp 15), (.lit (.int .i64 40))], none, (some 16), [15]⟩,
  ⟨.un .not (.tmp 16), none, (some 17), [16]⟩,
  ⟨.mv (.tmp 17), none, (some 18), [17]⟩,
  ⟨.mv (.tmp 0), (some (18, false)), (some 19), [0]⟩,
  ⟨.len 1 (.tmp 19), (some (18, false)), (some 20), [19]⟩,
  ⟨.bin .gtr .other (.tmp 20) (.lit (.int .i64 64)), (some (18, false)), (some 21), [20]⟩,
  ⟨.pick (.tmp 18) (.lit (.bool true)) (.tmp 21), none, (some 22), [18, 21]⟩,
  ⟨.mv (.tmp 22), none, (some 23), [22]⟩,
  ⟨.mv (.tmp 0), (some (23, false)), (some 24), [0]⟩,
  ⟨.len 1 (.tmp 24), (some (23, false)), (some 25), [24]⟩,
  ⟨.bin .eql .other (.tmp 25) (.lit (.int .i64 0)), (some (23, false)), (some 26), [25]⟩,
  ⟨.pick (.tmp 23) (.lit (.bool true)) (.tmp 26), none, (some 27), [23, 26]⟩]
def m4r2 : List MOper := [⟨.call 8 [], none, (some 28), []⟩,
  ⟨.mv (.tmp 28), none, (some 6), [28]⟩]
def m4r3 : List MOper := [⟨.mv (.tmp 1), none, (some 29), [1]⟩,
  ⟨.conv .i64 (.tmp 29), none, (some 30), [29]⟩,
  ⟨.mv (.tmp 0), none, (some 31), [0]⟩,
  ⟨.len 1 (.tmp 31), none, (some 32), [31]⟩,
  ⟨.bin .rem .other (.tmp 30) (.tmp 32), none, (some 33), [30, 32]⟩,
  ⟨.mv (.tmp 2), none, (some 34), [2]⟩,
  ⟨.conv .i64 (.tmp 34), none, (some 35), [34]⟩,
  ⟨.mv (.tmp 0), none, (some 36), [0]⟩,
  ⟨.len 1 (.tmp 36), none, (some 37), [36]⟩,
  ⟨.bin .rem .other (.tmp 35) (.tmp 37), none, (some 38), [35, 37]⟩,
  ⟨.mv (.tmp 33), none, (some 7), [33]⟩]
def m4r4 : List MOper := [⟨.mv (.tmp 38), none, (some 8), [38]⟩]
def m4r5 : List MOper := [⟨.mv (.lit .nils), none, (some 9), []⟩]
def m4r6 : List MOper := [⟨.mv (.tmp 9), none, (some 39), [9]⟩,
  ⟨.mv (.tmp 0), none, (some 40), [0]⟩,
  ⟨.append 1 24 (.tmp 39) (.tmp 40), none, (some 41), [39, 40]⟩,
  ⟨.mv (.tmp 41), none, (some 9), [41]⟩]
def m4r7 : List MOper := [⟨.mv (.tmp 9), none, (some 42), [9]⟩,
  ⟨.mv (.tmp 7), none, (some 43), [7]⟩,
  ⟨.mv (.tmp 0), none, (some 44), [0]⟩,
  ⟨.mv (.tmp 8), none, (some 45), [8]⟩,
  ⟨.iaddr 1 (.tmp 44) (.tmp 45), none, (some 46), [44, 45]⟩,
  ⟨.load none (.tmp 46), none, (some 47), [46]⟩,
  ⟨.iaddr 1 (.tmp 42) (.tmp 43), none, (some 48), [42, 43]⟩,
  ⟨.store 1 (.tmp 48) (.tmp 47), none, none, [48, 47]⟩]
def m4r8 : List MOper := [⟨.mv (.tmp 9), none, (some 49), [9]⟩,
  ⟨.mv (.tmp 8), none, (some 50), [8]⟩,
  ⟨.mv (.tmp 0), none, (some 51), [0]⟩,
  ⟨.mv (.tmp 7), none, (some 52), [7]⟩,
  ⟨.iaddr 1 (.tmp 51) (.tmp 52), none, (some 53), [51, 52]⟩,
  ⟨.load none (.tmp 53), none, (some 54), [53]⟩,
  ⟨.iaddr 1 (.tmp 49) (.tmp 50), none, (some 55), [49, 50]⟩,
  ⟨.store 1 (.tmp 55) (.tmp 54), none, none, [55, 54]⟩]
def m4r9 : List MOper := [⟨.mv (.tmp 0), none, (some 57), [0]⟩,
  ⟨.call 13 [(.tmp 57), (.lit (.int .i64 40))], none, (some 58), [57]⟩,
  ⟨.mv (.tmp 58), none, (some 56), [58]⟩,
  ⟨.ext 0 (.tmp 56), none, (some 59), [56]⟩,
  ⟨.ext 1 (.tmp 56), none, (some 60), [56]⟩,
  ⟨.mv (.tmp 59), none, (some 10), [59]⟩,
  ⟨.mv (.tmp 60), none, (some 11), [60]⟩]
def m4r10 : List MOper := [⟨.mv (.tmp 9), none, (some 62), [9]⟩,
  ⟨.call 13 [(.tmp 62), (.lit (.int .i64 40))], none, (some 63), [62]⟩,
  ⟨.mv (.tmp 63), none, (some 61), [63]⟩,
  ⟨.ext 0 (.tmp 61), none, (some 64), [61]⟩,
  ⟨.ext 1 (.tmp 61), none, (some 65), [61]⟩,
  ⟨.mv (.tmp 64), none, (some 12), [64]⟩,
  ⟨.mv (.tmp 65), none, (some 13), [65]⟩]
def m4r11 : List MOper := [⟨.mv (.tmp 11), none, (some 66), [11]⟩,
  ⟨.bin .neq .other (.tmp 66) (.lit (.int .u8 0)), none, (some 67), [66]⟩,
  ⟨.mv (.tmp 67), none, (some 68), [67]⟩,
  ⟨.mv (.tmp 13), (some (68, false)), (some 69), [13]⟩,
  ⟨.bin .neq .other (.tmp 69) (.lit (.int .u8 0)), (some (68, false)), (some 70), [69]⟩,
  ⟨.pick (.tmp 68) (.lit (.bool true)) (.tmp 70), none, (some 71), [68, 70]⟩,
  ⟨.mv (.tmp 71), none, (some 72), [71]⟩,
  ⟨.mv (.tmp 10), (some (72, false)), (some 73), [10]⟩,
  ⟨.len 1 (.tmp 73), (some (72, false)), (some 74), [73]⟩,
  ⟨.mv (.tmp 0), (some (72, false)), (some 75), [0]⟩,
  ⟨.len 1 (.tmp 75), (some (72, false)), (some 76), [75]⟩,
  ⟨.bin .neq .other (.tmp 74) (.tmp 76), (some (72, false)), (some 77), [74, 76]⟩,
  ⟨.pick (.tmp 72) (.lit (.bool true)) (.tmp 77), none, (some 78), [72, 77]⟩,
  ⟨.mv (.tmp 78), none, (some 79), [78]⟩,
  ⟨.mv (.tmp 12), (some (79, false)), (some 80), [12]⟩,
  ⟨.len 1 (.tmp 80), (some (79, false)), (some 81), [80]⟩,
  ⟨.mv (.tmp 0), (some (79, false)), (some 82), [0]⟩,
  ⟨.len 1 (.tmp 82), (some (79, false)), (some 83), [82]⟩,
  ⟨.bin .neq .other (.tmp 81) (.tmp 83), (some (79, false)), (some 84), [81, 83]⟩,
  ⟨.pick (.tmp 79) (.lit (.bool true)) (.tmp 84), none, (some 85), [79, 84]⟩]
def m4r12 : List MOper := [⟨.mv (.lit (.bool false)), none, (some 6), []⟩]
def m4r13 : List MOper := [⟨.mv (.lit .nils), none, (some 14), []⟩]
def m4r14 : List MOper := [⟨.mv (.tmp 14), none, (some 86), [14]⟩,
  ⟨.mv (.tmp 12), none, (some 87), [12]⟩,
  ⟨.append 1 24 (.tmp 86) (.tmp 87), none, (some 88), [86, 87]⟩,
  ⟨.mv (.tmp 88), none, (some 14), [88]⟩]
def m4r15 : List MOper := [⟨.mv (.tmp 14), none, (some 89), [14]⟩,
  ⟨.mv (.tmp 7), none, (some 90), [7]⟩,
  ⟨.mv (.tmp 12), none, (some 91), [12]⟩,
  ⟨.mv (.tmp 8), none, (some 92), [8]⟩,
  ⟨.iaddr 1 (.tmp 91) (.tmp 92), none, (some 93), [91, 92]⟩,
  ⟨.load none (.tmp 93), none, (some 94), [93]⟩,
  ⟨.iaddr 1 (.tmp 89) (.tmp 90), none, (some 95), [89, 90]⟩,
  ⟨.store 1 (.tmp 95) (.tmp 94), none, none, [95, 94]⟩]
def m4r16 : List MOper := [⟨.mv (.tmp 14), none, (some 96), [14]⟩,
  ⟨.mv (.tmp 8), none, (some 97), [8]⟩,
  ⟨.mv (.tmp 12), none, (some 98), [12]⟩,
  ⟨.mv (.tmp 7), none, (some 99), [7]⟩,
  ⟨.iaddr 1 (.tmp 98) (.tmp 99), none, (some 100), [98, 99]⟩,
  ⟨.load none (.tmp 100), none, (some 101), [100]⟩,
  ⟨.iaddr 1 (.tmp 96) (.tmp 97), none, (some 102), [96, 97]⟩,
  ⟨.store 1 (.tmp 102) (.tmp 101), none, none, [102, 101]⟩]
def m4r17 : List MOper := [⟨.mv (.tmp 10), none, (some 103), [10]⟩,
  ⟨.mv (.tmp 14), none, (some 104), [14]⟩,
  ⟨.call 11 [(.tmp 103), (.tmp 104)], none, (some 105), [103, 104]⟩,
  ⟨.mv (.tmp 105), none, (some 106), [105]⟩,
  ⟨.call 8 [], (some (106, true)), (some 107), []⟩,
  ⟨.pick (.tmp 106) (.tmp 107) (.lit (.bool false)), none, (some 108), [106, 107]⟩,
  ⟨.mv (.tmp 108), none, (some 6), [108]⟩]
def m4 : MFunc := ⟨109, [.tmp 6],
  (.seq (.region m4r0 [0, 1, 2])
  (.seq (.seq (.region m4r1 [0, 1, 2, 27])
  (.cond (.tmp 27)
  (.seq (.region m4r2 [6])
  .ret)
  .skip))
  (.seq (.dregion m4r3 m4r4 [] [0, 7, 8])
  (.seq (.region m4r5 [0, 7, 8, 9])
  (.seq (.region m4r6 [0, 7, 8, 9])
  (.seq (.region m4r7 [0, 7, 8, 9])
  (.seq (.region m4r8 [0, 7, 8, 9])
  (.seq (.region m4r9 [0, 7, 8, 9, 10, 11])
  (.seq (.seq .conv
  (.region m4r10 [0, 7, 8, 10, 11, 12, 13]))
  (.seq (.seq (.region m4r11 [7, 8, 10, 12, 85])
  (.cond (.tmp 85)
  (.seq (.region m4r12 [6])
  .ret)
  .skip))
  (.seq (.region m4r13 [7, 8, 10, 12, 14])
  (.seq (.region m4r14 [7, 8, 10, 12, 14])
  (.seq (.region m4r15 [7, 8, 10, 12, 14])
  (.seq (.region m4r16 [10, 14])
  (.seq (.seq .conv
  (.region m4r17 [6]))
  .ret)))))))))))))))⟩
def h4 : List RH := [⟨[0, 1, 2], 0, false, []⟩, ⟨[0, 1, 2, 27], 0, false, []⟩, ⟨[6], 0, false, []⟩, ⟨[0, 7, 8], 11, false, []⟩, ⟨[0, 7, 8, 9], 0, false, []⟩, ⟨[0, 7, 8, 9], 0, false, []⟩, ⟨[0, 7, 8, 9], 0, false, []⟩, ⟨[0, 7, 8, 9], 0, false, []⟩, ⟨[0, 7, 8, 9, 10, 11], 0, false, []⟩, ⟨[0, 7, 8, 10, 11, 12, 13], 0, true, []⟩, ⟨[7, 8, 10, 12, 85], 0, false, []⟩, ⟨[6], 0, false, []⟩, ⟨[7, 8, 10, 12, 14], 0, false, []⟩, ⟨[7, 8, 10, 12, 14], 0, false, []⟩, ⟨[7, 8, 10, 12, 14], 0, false, []⟩, ⟨[10, 14], 0, false, []⟩, ⟨[6], 0, true, []⟩]
theorem m4_ok : cmpFn Try.prog 4 h4 = some m4 := by kernel_rfl

/- dialtone/mixer.Gain -/
def m9r0 : List MOper := [⟨.mv (.lit .nils), none, (some 4), []⟩,
  ⟨.mv (.lit (.int .u8 0)), none, (some 5), []⟩]
def m9r1 : List MOper := [⟨.mv (.tmp 1), none, (some 10), [1]⟩,
  ⟨.bin .lss .other (.tmp 10) (.lit (.int .i64 0)), none, (some 11), [10]⟩,
  ⟨.mv (.tmp 11), none, (some 12), [11]⟩,
  ⟨.mv (.tmp 1), (some (12, false)), (some 13), [1]⟩,
  ⟨.bin .gtr .other (.tmp 13) (.lit (.int .i64 1024)), (some (12, false)), (some 14), [13]⟩,
  ⟨.pick (.tmp 12) (.lit (.bool true)) (.tmp 14), none, (some 15), [12, 14]⟩]
def m9r2 : List MOper := [⟨.mv (.lit .nils), none, (some 4), []⟩,
  ⟨.mv (.lit (.int .u8 3)), none, (some 5), []⟩]
def m9r3 : List MOper := [⟨.mv (.tmp 0), none, (some 16), [0]⟩,
  ⟨.len 1 (.tmp 16), none, (some 17), [16]⟩,
  ⟨.make [(.int .i16 0)] 2 (.tmp 17) (.tmp 17), none, (some 18), [17, 17]⟩,
  ⟨.mv (.tmp 18), none, (some 6), [18]⟩]
def m9r4 : List MOper := [⟨.mv (.tmp 0), none, (some 19), [0]⟩,
  ⟨.len 1 (.tmp 19), none, (some 20), [19]⟩,
  ⟨.mv (.lit (.int .i64 0)), none, (some 21), []⟩]
def m9r5 : List MOper := [⟨.bin .lss .other (.tmp 21) (.tmp 20), none, (some 22), [21, 20]⟩]
def m9r6 : List MOper := [⟨.mv (.tmp 21), none, (some 23), [21]⟩,
  ⟨.iaddr 1 (.tmp 19) (.tmp 21), none, (some 24), [19, 21]⟩,
  ⟨.load none (.tmp 24), none, (some 25), [24]⟩,
  ⟨.mv (.tmp 23), none, (some 7), [23]⟩,
  ⟨.mv (.tmp 25), none, (some 8), [25]⟩]
def m9r7 : List MOper := [⟨.mv (.tmp 8), none, (some 26), [8]⟩,
  ⟨.conv .i64 (.tmp 26), none, (some 27), [26]⟩,
  ⟨.mv (.tmp 1), none, (some 28), [1]⟩,
  ⟨.bin .mul .other (.tmp 27) (.tmp 28), none, (some 29), [27, 28]⟩,
  ⟨.mv (.tmp 29), none, (some 9), [29]⟩]
def m9r8 : List MOper := [⟨.mv (.tmp 9), none, (some 30), [9]⟩,
  ⟨.bin .lss .other (.tmp 30) (.lit (.int .i64 0)), none, (some 31), [30]⟩]
def m9r9 : List MOper := [⟨.mv (.tmp 6), none, (some 32), [6]⟩,
  ⟨.mv (.tmp 7), none, (some 33), [7]⟩,
  ⟨.mv (.tmp 9), none, (some 34), [9]⟩,
  ⟨.bin .sub .other (.lit (.int .i64 128)) (.tmp 34), none, (some 35), [34]⟩,
  ⟨.bin .shr .other (.tmp 35) (.lit (.int .u64 8)), none, (some 36), [35]⟩,
  ⟨.un .neg (.tmp 36), none, (some 37), [36]⟩,
  ⟨.call 22 [(.tmp 37)], none, (some 38), [37]⟩,
  ⟨.iaddr 1 (.tmp 32) (.tmp 33), none, (some 39), [32, 33]⟩,
  ⟨.store 1 (.tmp 39) (.tmp 38), none, none, [39, 38]⟩]
def m9r10 : List MOper := [⟨.mv (.tmp 6), none, (some 40), [6]⟩,
  ⟨.mv (.tmp 7), none, (some 41), [7]⟩,
  ⟨.mv (.tmp 9), none, (some 42), [9]⟩,
  ⟨.bin .add .other (.tmp 42) (.lit (.int .i64 128)), none, (some 43), [42]⟩,
  ⟨.bin .shr .other (.tmp 43) (.lit (.int .u64 8)), none, (some 44), [43]⟩,
  ⟨.call 22 [(.tmp 44)], none, (some 45), [44]⟩,
  ⟨.iaddr 1 (.tmp 40) (.tmp 41), none, (some 46), [40, 41]⟩,
  ⟨.store 1 (.tmp 46) (.tmp 45), none, none, [46, 45]⟩]
def m9r11 : List MOper := [⟨.bin .add .other (.tmp 21) (.lit (.int .i64 1)), none, (some 47), [21]⟩,
  ⟨.mv (.tmp 47), none, (some 21), [47]⟩]
def m9l12 : MCode := (.seq (.region m9r5 [1, 6, 19, 20, 21, 22])
  (.seq (.cond (.tmp 22)
  .skip
  (.exit 0))
  (.seq (.block 1 (.seq (.region m9r6 [1, 6, 7, 8, 19, 20, 21])
  (.seq (.region m9r7 [1, 6, 7, 9, 19, 20, 21])
  (.seq (.region m9r8 [1, 6, 7, 9, 19, 20, 21, 31])
  (.cond (.tmp 31)
  (.region m9r9 [1, 6, 19, 20, 21])
  (.region m9r10 [1, 6, 19, 20, 21]))))))
  (.region m9r11 [1, 6, 19, 20, 21]))))
def m9r13 : List MOper := [⟨.mv (.tmp 6), none, (some 48), [6]⟩,
  ⟨.mv (.tmp 48), none, (some 4), [48]⟩,
  ⟨.mv (.lit (.int .u8 0)), none, (some 5), []⟩]
def m9 : MFunc := ⟨49, [.tmp 4, .tmp 5],
  (.seq (.region m9r0 [0, 1])
  (.seq (.seq (.region m9r1 [0, 1, 15])
  (.cond (.tmp 15)
  (.seq (.region m9r2 [4, 5])
  .ret)
  .skip))
  (.seq (.region m9r3 [0, 1, 6])
  (.seq (.seq (.region m9r4 [1, 6, 19, 20, 21])
  (.block 0 (.loop [1, 6, 19, 20, 21] m9l12)))
  (.seq (.region m9r13 [4, 5])
  .ret)))))⟩
def h9 : List RH := [⟨[0, 1], 0, false, []⟩, ⟨[0, 1, 15], 0, false, []⟩, ⟨[4, 5], 0, false, []⟩, ⟨[0, 1, 6], 0, false, []⟩, ⟨[1, 6, 19, 20, 21], 0, false, []⟩, ⟨[1, 6, 19, 20, 21], 0, false, []⟩, ⟨[1, 6, 19, 20, 21, 22], 0, false, []⟩, ⟨[1, 6, 7, 8, 19, 20, 21], 0, false, []⟩, ⟨[1, 6, 7, 9, 19, 20, 21], 0, false, []⟩, ⟨[1, 6, 7, 9, 19, 20, 21, 31], 0, false, []⟩, ⟨[1, 6, 19, 20, 21], 0, false, []⟩, ⟨[1, 6, 19, 20, 21], 0, false, []⟩, ⟨[1, 6, 19, 20, 21], 0, false, []⟩, ⟨[4, 5], 0, false, []⟩]
theorem m9_ok : cmpFn Try.prog 9 h9 = some m9 := by kernel_rfl

/- dialtone/dialtoneref31.Gain -/
def m10r0 : List MOper := [⟨.mv (.lit .nils), none, (some 4), []⟩,
  ⟨.mv (.lit (.int .u8 0)), none, (some 5), []⟩]
def m10r1 : List MOper := [⟨.mv (.tmp 1), none, (some 11), [1]⟩,
  ⟨.bin .lss .other (.tmp 11) (.lit (.int .i64 0)), none, (some 12), [11]⟩,
  ⟨.mv (.tmp 12), none, (some 13), [12]⟩,
  ⟨.mv (.tmp 1), (some (13, false)), (some 14), [1]⟩,
  ⟨.bin .gtr .other (.tmp 14) (.lit (.int .i64 1024)), (some (13, false)), (some 15), [14]⟩,
  ⟨.pick (.tmp 13) (.lit (.bool true)) (.tmp 15), none, (some 16), [13, 15]⟩]
def m10r2 : List MOper := [⟨.mv (.lit .nils), none, (some 4), []⟩,
  ⟨.mv (.lit (.int .u8 3)), none, (some 5), []⟩]
def m10r3 : List MOper := [⟨.mv (.lit .nils), none, (some 6), []⟩]
def m10r4 : List MOper := [⟨.mv (.lit (.int .i64 0)), none, (some 7), []⟩]
def m10r5 : List MOper := [⟨.mv (.tmp 7), none, (some 17), [7]⟩,
  ⟨.mv (.tmp 0), none, (some 18), [0]⟩,
  ⟨.len 1 (.tmp 18), none, (some 19), [18]⟩,
  ⟨.bin .lss .other (.tmp 17) (.tmp 19), none, (some 20), [17, 19]⟩]
def m10r6 : List MOper := [⟨.mv (.tmp 0), none, (some 23), [0]⟩,
  ⟨.mv (.tmp 7), none, (some 24), [7]⟩,
  ⟨.iaddr 1 (.tmp 23) (.tmp 24), none, (some 25), [23, 24]⟩,
  ⟨.load none (.tmp 25), none, (some 26), [25]⟩,
  ⟨.conv .i64 (.tmp 26), none, (some 27), [26]⟩,
  ⟨.mv (.tmp 1), none, (some 28), [1]⟩,
  ⟨.bin .mul .other (.tmp 27) (.tmp 28), none, (some 29), [27, 28]⟩,
  ⟨.mv (.tmp 29), none, (some 8), [29]⟩]
def m10r7 : List MOper := [⟨.mv (.tmp 8), none, (some 30), [8]⟩,
  ⟨.mv (.tmp 8), none, (some 31), [8]⟩,
  ⟨.un .neg (.tmp 31), none, (some 32), [31]⟩,
  ⟨.minmax true (.tmp 30) [(.tmp 32)], none, (some 33), [30, 32]⟩,
  ⟨.mv (.tmp 33), none, (some 9), [33]⟩]
def m10r8 : List MOper := [⟨.mv (.tmp 9), none, (some 34), [9]⟩,
  ⟨.bin .quo .other (.tmp 34) (.lit (.int .i64 256)), none, (some 35), [34]⟩,
  ⟨.mv (.tmp 35), none, (some 10), [35]⟩]
def m10r9 : List MOper := [⟨.mv (.tmp 9), none, (some 36), [9]⟩,
  ⟨.bin .rem .other (.tmp 36) (.lit (.int .i64 256)), none, (some 37), [36]⟩,
  ⟨.bin .geq .other (.tmp 37) (.lit (.int .i64 128)), none, (some 38), [37]⟩]
def m10r10 : List MOper := [⟨.mv (.tmp 10), none, (some 39), [10]⟩,
  ⟨.bin .add .other (.tmp 39) (.lit (.int .i64 1)), none, (some 40), [39]⟩,
  ⟨.mv (.tmp 40), none, (some 10), [40]⟩]
def m10r11 : List MOper := [⟨.mv (.tmp 8), none, (some 41), [8]⟩,
  ⟨.bin .lss .other (.tmp 41) (.lit (.int .i64 0)), none, (some 42), [41]⟩]
def m10r12 : List MOper := [⟨.mv (.tmp 10), none, (some 43), [10]⟩,
  ⟨.un .neg (.tmp 43), none, (some 44), [43]⟩,
  ⟨.mv (.tmp 44), none, (some 10), [44]⟩]
def m10r13 : List MOper := [⟨.mv (.tmp 6), none, (some 45), [6]⟩,
  ⟨.mv (.tmp 10), none, (some 46), [10]⟩,
  ⟨.call 23 [(.tmp 46)], none, (some 47), [46]⟩,
  ⟨.mkfrz [(.int .i16 0)] 1 [(0, (.tmp 47))], none, (some 48), [47]⟩,
  ⟨.append 1 2 (.tmp 45) (.tmp 48), none, (some 49), [45, 48]⟩,
  ⟨.mv (.tmp 49), none, (some 6), [49]⟩]
def m10r14 : List MOper := [⟨.mv (.tmp 7), none, (some 21), [7]⟩,
  ⟨.bin .add .other (.tmp 21) (.lit (.int .i64 1)), none, (some 22), [21]⟩,
  ⟨.mv (.tmp 22), none, (some 7), [22]⟩]
def m10l15 : MCode := (.seq (.seq (.region m10r5 [0, 1, 6, 7, 20])
  (.cond (.tmp 20)
  .skip
  (.exit 0)))
  (.seq (.block 1 (.seq (.region m10r6 [0, 1, 6, 7, 8])
  (.seq (.region m10r7 [0, 1, 6, 7, 8, 9])
  (.seq (.region m10r8 [0, 1, 6, 7, 8, 9, 10])
  (.seq (.seq (.region m10r9 [0, 1, 6, 7, 8, 10, 38])
  (.cond (.tmp 38)
  (.region m10r10 [0, 1, 6, 7, 8, 10])
  .skip))
  (.seq (.seq (.region m10r11 [0, 1, 6, 7, 10, 42])
  (.cond (.tmp 42)
  (.region m10r12 [0, 1, 6, 7, 10])
  .skip))
  (.region m10r13 [0, 1, 6, 7])))))))
  (.region m10r14 [0, 1, 6, 7])))
def m10r16 : List MOper := [⟨.mv (.tmp 6), none, (some 50), [6]⟩,
  ⟨.mv (.tmp 50), none, (some 4), [50]⟩,
  ⟨.mv (.lit (.int .u8 0)), none, (some 5), []⟩]
def m10 : MFunc := ⟨51, [.tmp 4, .tmp 5],
  (.seq (.region m10r0 [0, 1])
  (.seq (.seq (.region m10r1 [0, 1, 16])
  (.cond (.tmp 16)
  (.seq (.region m10r2 [4, 5])
  .ret)
  .skip))
  (.seq (.region m10r3 [0, 1, 6])
  (.seq (.seq (.region m10r4 [0, 1, 6, 7])
  (.block 0 (.loop [0, 1, 6, 7] m10l15)))
  (.seq (.region m10r16 [4, 5])
  .ret)))))⟩
def h10 : List RH := [⟨[0, 1], 0, false, []⟩, ⟨[0, 1, 16], 0, false, []⟩, ⟨[4, 5], 0, false, []⟩, ⟨[0, 1, 6], 0, false, []⟩, ⟨[0, 1, 6, 7], 0, false, []⟩, ⟨[0, 1, 6, 7], 0, false, []⟩, ⟨[0, 1, 6, 7, 20], 0, false, []⟩, ⟨[0, 1, 6, 7, 8], 0, false, []⟩, ⟨[0, 1, 6, 7, 8, 9], 0, false, []⟩, ⟨[0, 1, 6, 7, 8, 9, 10], 0, false, []⟩, ⟨[0, 1, 6, 7, 8, 10, 38], 0, false, []⟩, ⟨[0, 1, 6, 7, 8, 10], 0, false, []⟩, ⟨[0, 1, 6, 7, 10, 42], 0, false, []⟩, ⟨[0, 1, 6, 7, 10], 0, false, []⟩, ⟨[0, 1, 6, 7], 0, false, []⟩, ⟨[0, 1, 6, 7], 0, false, []⟩, ⟨[4, 5], 0, false, []⟩]
theorem m10_ok : cmpFn Try.prog 10 h10 = some m10 := by kernel_rfl

/- dialtone/dialtoneref31.Same -/
def m11r0 : List MOper := [⟨.mv (.lit (.bool false)), none, (some 4), []⟩]
def m11r1 : List MOper := [⟨.mv (.tmp 0), none, (some 7), [0]⟩,
  ⟨.len 1 (.tmp 7), none, (some 8), [7]⟩,
  ⟨.mv (.tmp 1), none, (some 9), [1]⟩,
  ⟨.len 1 (.tmp 9), none, (some 10), [9]⟩,
  ⟨.bin .neq .other (.tmp 8) (.tmp 10), none, (some 11), [8, 10]⟩]
def m11r2 : List MOper := [⟨.mv (.lit (.bool false)), none, (some 4), []⟩]
def m11r3 : List MOper := [⟨.mv (.lit (.int .i64 0)), none, (some 5), []⟩]
def m11r4 : List MOper := [⟨.mv (.tmp 5), none, (some 12), [5]⟩,
  ⟨.mv (.tmp 0), none, (some 13), [0]⟩,
  ⟨.len 1 (.tmp 13), none, (some 14), [13]⟩,
  ⟨.bin .lss .other (.tmp 12) (.tmp 14), none, (some 15), [12, 14]⟩]
def m11r5 : List MOper := [⟨.mv (.tmp 0), none, (some 18), [0]⟩,
  ⟨.mv (.tmp 5), none, (some 19), [5]⟩,
  ⟨.iaddr 1 (.tmp 18) (.tmp 19), none, (some 20), [18, 19]⟩,
  ⟨.load none (.tmp 20), none, (some 21), [20]⟩,
  ⟨.len 1 (.tmp 21), none, (some 22), [21]⟩,
  ⟨.mv (.tmp 1), none, (some 23), [1]⟩,
  ⟨.mv (.tmp 5), none, (some 24), [5]⟩,
  ⟨.iaddr 1 (.tmp 23) (.tmp 24), none, (some 25), [23, 24]⟩,
  ⟨.load none (.tmp 25), none, (some 26), [25]⟩,
  ⟨.len 1 (.tmp 26), none, (some 27), [26]⟩]
def m11r6 : List MOper := [⟨.bin .neq .other (.tmp 22) (.tmp 27), none, (some 28), [22, 27]⟩]
def m11r7 : List MOper := [⟨.mv (.lit (.bool false)), none, (some 4), []⟩]
def m11r8 : List MOper := [⟨.mv (.lit (.int .i64 0)), none, (some 6), []⟩]
def m11r9 : List MOper := [⟨.mv (.tmp 6), none, (some 29), [6]⟩,
  ⟨.mv (.tmp 0), none, (some 30), [0]⟩,
  ⟨.mv (.tmp 5), none, (some 31), [5]⟩,
  ⟨.iaddr 1 (.tmp 30) (.tmp 31), none, (some 32), [30, 31]⟩,
  ⟨.load none (.tmp 32), none, (some 33), [32]⟩,
  ⟨.len 1 (.tmp 33), none, (some 34), [33]⟩,
  ⟨.bin .lss .other (.tmp 29) (.tmp 34), none, (some 35), [29, 34]⟩]
def m11r10 : List MOper := [⟨.mv (.tmp 0), none, (some 38), [0]⟩,
  ⟨.mv (.tmp 5), none, (some 39), [5]⟩,
  ⟨.iaddr 1 (.tmp 38) (.tmp 39), none, (some 40), [38, 39]⟩,
  ⟨.load none (.tmp 40), none, (some 41), [40]⟩,
  ⟨.mv (.tmp 6), none, (some 42), [6]⟩,
  ⟨.iaddr 1 (.tmp 41) (.tmp 42), none, (some 43), [41, 42]⟩,
  ⟨.load none (.tmp 43), none, (some 44), [43]⟩,
  ⟨.mv (.tmp 1), none, (some 45), [1]⟩,
  ⟨.mv (.tmp 5), none, (some 46), [5]⟩,
  ⟨.iaddr 1 (.tmp 45) (.tmp 46), none, (some 47), [45, 46]⟩,
  ⟨.load none (.tmp 47), none, (some 48), [47]⟩,
  ⟨.mv (.tmp 6), none, (some 49), [6]⟩,
  ⟨.iaddr 1 (.tmp 48) (.tmp 49), none, (some 50), [48, 49]⟩,
  ⟨.load none (.tmp 50), none, (some 51), [50]⟩]
def m11r11 : List MOper := [⟨.bin .neq .other (.tmp 44) (.tmp 51), none, (some 52), [44, 51]⟩]
def m11r12 : List MOper := [⟨.mv (.lit (.bool false)), none, (some 4), []⟩]
def m11r13 : List MOper := [⟨.mv (.tmp 6), none, (some 36), [6]⟩,
  ⟨.bin .add .other (.tmp 36) (.lit (.int .i64 1)), none, (some 37), [36]⟩,
  ⟨.mv (.tmp 37), none, (some 6), [37]⟩]
def m11l14 : MCode := (.seq (.seq (.region m11r9 [0, 1, 5, 6, 35])
  (.cond (.tmp 35)
  .skip
  (.exit 2)))
  (.seq (.block 3 (.seq (.dregion m11r10 m11r11 [] [0, 1, 5, 6, 52])
  (.cond (.tmp 52)
  (.seq (.region m11r12 [4])
  .ret)
  .skip)))
  (.region m11r13 [0, 1, 5, 6])))
def m11r15 : List MOper := [⟨.mv (.tmp 5), none, (some 16), [5]⟩,
  ⟨.bin .add .other (.tmp 16) (.lit (.int .i64 1)), none, (some 17), [16]⟩,
  ⟨.mv (.tmp 17), none, (some 5), [17]⟩]
def m11l16 : MCode := (.seq (.seq (.region m11r4 [0, 1, 5, 15])
  (.cond (.tmp 15)
  .skip
  (.exit 0)))
  (.seq (.block 1 (.seq (.seq (.dregion m11r5 m11r6 [] [0, 1, 5, 28])
  (.cond (.tmp 28)
  (.seq (.region m11r7 [4])
  .ret)
  .skip))
  (.seq (.region m11r8 [0, 1, 5, 6])
  (.block 2 (.loop [0, 1, 5, 6] m11l14)))))
  (.region m11r15 [0, 1, 5])))
def m11r17 : List MOper := [⟨.mv (.lit (.bool true)), none, (some 4), []⟩]
def m11 : MFunc := ⟨53, [.tmp 4],
  (.seq (.region m11r0 [0, 1])
  (.seq (.seq (.region m11r1 [0, 1, 11])
  (.cond (.tmp 11)
  (.seq (.region m11r2 [4])
  .ret)
  .skip))
  (.seq (.seq (.region m11r3 [0, 1, 5])
  (.block 0 (.loop [0, 1, 5] m11l16)))
  (.seq (.region m11r17 [4])
  .ret))))⟩
def h11 : List RH := [⟨[0, 1], 0, false, []⟩, ⟨[0, 1, 11], 0, false, []⟩, ⟨[4], 0, false, []⟩, ⟨[0, 1, 5], 0, false, []⟩, ⟨[0, 1, 5], 0, false, []⟩, ⟨[0, 1, 5, 15], 0, false, []⟩, ⟨[0, 1, 5, 28], 10, false, []⟩, ⟨[4], 0, false, []⟩, ⟨[0, 1, 5, 6], 0, false, []⟩, ⟨[0, 1, 5, 6], 0, false, []⟩, ⟨[0, 1, 5, 6, 35], 0, false, []⟩, ⟨[0, 1, 5, 6, 52], 14, false, []⟩, ⟨[4], 0, false, []⟩, ⟨[0, 1, 5, 6], 0, false, []⟩, ⟨[0, 1, 5], 0, false, []⟩, ⟨[4], 0, false, []⟩]
theorem m11_ok : cmpFn Try.prog 11 h11 = some m11 := by kernel_rfl

/- dialtone/dialtonelaw31.few -/
def m12r0 : List MOper := [⟨.mv (.lit (.bool false)), none, (some 4), []⟩]
def m12r1 : List MOper := [⟨.mv (.tmp 0), none, (some 6), [0]⟩,
  ⟨.len 1 (.tmp 6), none, (some 7), [6]⟩,
  ⟨.bin .gtr .other (.tmp 7) (.lit (.int .i64 70)), none, (some 8), [7]⟩,
  ⟨.mv (.tmp 8), none, (some 9), [8]⟩,
  ⟨.mv (.tmp 1), (some (9, false)), (some 10), [1]⟩,
  ⟨.bin .gtr .other (.tmp 10) (.lit (.int .i64 100)), (some (9, false)), (some 11), [10]⟩,
  ⟨.mv (.tmp 11), (some (9, false)), (some 12), [11]⟩,
  ⟨.mv (.tmp 1), (some (12, true)), (some 13), [1]⟩,
  ⟨.bin .leq .other (.tmp 13) (.lit (.int .i64 8000)), (some (12, true)), (some 14), [13]⟩,
  ⟨.pick (.tmp 12) (.tmp 14) (.lit (.bool false)), (some (9, false)), (some 15), [12, 14]⟩,
  ⟨.pick (.tmp 9) (.lit (.bool true)) (.tmp 15), none, (some 16), [9, 15]⟩]
def m12r2 : List MOper := [⟨.mv (.lit (.bool false)), none, (some 4), []⟩]
def m12r3 : List MOper := [⟨.mv (.lit (.int .i64 0)), none, (some 5), []⟩]
def m12r4 : List MOper := [⟨.mv (.tmp 5), none, (some 17), [5]⟩,
  ⟨.mv (.tmp 0), none, (some 18), [0]⟩,
  ⟨.len 1 (.tmp 18), none, (some 19), [18]⟩,
  ⟨.bin .lss .other (.tmp 17) (.tmp 19), none, (some 20), [17, 19]⟩]
def m12r5 : List MOper := [⟨.mv (.tmp 0), none, (some 23), [0]⟩,
  ⟨.mv (.tmp 5), none, (some 24), [5]⟩,
  ⟨.iaddr 1 (.tmp 23) (.tmp 24), none, (some 25), [23, 24]⟩,
  ⟨.load none (.tmp 25), none, (some 26), [25]⟩,
  ⟨.len 1 (.tmp 26), none, (some 27), [26]⟩,
  ⟨.bin .gtr .other (.tmp 27) (.lit (.int .i64 300)), none, (some 28), [27]⟩]
def m12r6 : List MOper := [⟨.mv (.lit (.bool false)), none, (some 4), []⟩]
def m12r7 : List MOper := [⟨.mv (.tmp 5), none, (some 21), [5]⟩,
  ⟨.bin .add .other (.tmp 21) (.lit (.int .i64 1)), none, (some 22), [21]⟩,
  ⟨.mv (.tmp 22), none, (some 5), [22]⟩]
def m12l8 : MCode := (.seq (.seq (.region m12r4 [0, 5, 20])
  (.cond (.tmp 20)
  .skip
  (.exit 0)))
  (.seq (.block 1 (.seq (.region m12r5 [0, 5, 28])
  (.cond (.tmp 28)
  (.seq (.region m12r6 [4])
  .ret)
  .skip)))
  (.region m12r7 [0, 5])))
def m12r9 : List MOper := [⟨.mv (.lit (.bool true)), none, (some 4), []⟩]
def m12 : MFunc := ⟨29, [.tmp 4],
  (.seq (.region m12r0 [0, 1])
  (.seq (.seq (.region m12r1 [0, 16])
  (.cond (.tmp 16)
  (.seq (.region m12r2 [4])
  .ret)
  .skip))
  (.seq (.seq (.region m12r3 [0, 5])
  (.block 0 (.loop [0, 5] m12l8)))
  (.seq (.region m12r9 [4])
  .ret))))⟩
def h12 : List RH := [⟨[0, 1], 0, false, []⟩, ⟨[0, 16], 0, false, []⟩, ⟨[4], 0, false, []⟩, ⟨[0, 5], 0, false, []⟩, ⟨[0, 5], 0, false, []⟩, ⟨[0, 5, 20], 0, false, []⟩, ⟨[0, 5, 28], 0, false, []⟩, ⟨[4], 0, false, []⟩, ⟨[0, 5], 0, false, []⟩, ⟨[4], 0, false, []⟩]
theorem m12_ok : cmpFn Try.prog 12 h12 = some m12 := by kernel_rfl

/- dialtone/mixer.Mix -/
def m13r0 : List MOper := [⟨.mv (.lit .nils), none, (some 4), []⟩,
  ⟨.mv (.lit (.int .u8 0)), none, (some 5), []⟩]
def m13r1 : List MOper := [⟨.mv (.tmp 0), none, (some 13), [0]⟩,
  ⟨.mv (.tmp 1), none, (some 14), [1]⟩,
  ⟨.call 24 [(.tmp 13), (.tmp 14)], none, (some 15), [13, 14]⟩,
  ⟨.mv (.tmp 15), none, (some 6), [15]⟩]
def m13r2 : List MOper := [⟨.mv (.tmp 6), none, (some 16), [6]⟩,
  ⟨.bin .neq .other (.tmp 16) (.lit (.int .u8 0)), none, (some 17), [16]⟩]
def m13r3 : List MOper := [⟨.mv (.tmp 6), none, (some 18), [6]⟩,
  ⟨.mv (.lit .nils), none, (some 4), []⟩,
  ⟨.mv (.tmp 18), none, (some 5), [18]⟩]
def m13r4 : List MOper := [⟨.mv (.tmp 0), none, (some 19), [0]⟩,
  ⟨.mv (.tmp 1), none, (some 20), [1]⟩,
  ⟨.call 25 [(.tmp 19), (.tmp 20)], none, (some 21), [19, 20]⟩,
  ⟨.mv (.tmp 21), none, (some 7), [21]⟩]
def m13r5 : List MOper := [⟨.mv (.tmp 0), none, (some 22), [0]⟩,
  ⟨.len 1 (.tmp 22), none, (some 23), [22]⟩,
  ⟨.make [.nils] 24 (.tmp 23) (.tmp 23), none, (some 24), [23, 23]⟩,
  ⟨.mv (.tmp 24), none, (some 8), [24]⟩]
def m13r6 : List MOper := [⟨.mv (.tmp 0), none, (some 25), [0]⟩,
  ⟨.len 1 (.tmp 25), none, (some 26), [25]⟩,
  ⟨.mv (.lit (.int .i64 0)), none, (some 27), []⟩]
def m13r7 : List MOper := [⟨.bin .lss .other (.tmp 27) (.tmp 26), none, (some 28), [27, 26]⟩]
def m13r8 : List MOper := [⟨.mv (.tmp 27), none, (some 29), [27]⟩,
  ⟨.iaddr 1 (.tmp 25) (.tmp 27), none, (some 30), [25, 27]⟩,
  ⟨.load none (.tmp 30), none, (some 31), [30]⟩,
  ⟨.mv (.tmp 29), none, (some 9), [29]⟩,
  ⟨.mv (.tmp 31), none, (some 10), [31]⟩]
def m13r9 : List MOper := [⟨.mv (.tmp 1), none, (some 32), [1]⟩,
  ⟨.make [(.int .i64 0)] 8 (.tmp 32) (.tmp 32), none, (some 33), [32, 32]⟩,
  ⟨.mv (.tmp 33), none, (some 11), [33]⟩]
def m13r10 : List MOper := [⟨.mv (.tmp 11), none, (some 34), [11]⟩,
  ⟨.mv (.tmp 7), none, (some 35), [7]⟩,
  ⟨.copy 1 (.tmp 34) (.tmp 35), none, (some 36), [34, 35]⟩]
def m13r11 : List MOper := [⟨.mv (.tmp 1), none, (some 37), [1]⟩,
  ⟨.mv (.tmp 10), none, (some 38), [10]⟩,
  ⟨.len 1 (.tmp 38), none, (some 39), [38]⟩,
  ⟨.minmax false (.tmp 37) [(.tmp 39)], none, (some 40), [37, 39]⟩,
  ⟨.mv (.lit (.int .i64 0)), none, (some 41), []⟩]
def m13r12 : List MOper := [⟨.bin .lss .other (.tmp 41) (.tmp 40), none, (some 42), [41, 40]⟩]
def m13r13 : List MOper := [⟨.mv (.tmp 41), none, (some 43), [41]⟩,
  ⟨.mv (.tmp 43), none, (some 12), [43]⟩]
def m13r14 : List MOper := [⟨.mv (.tmp 11), none, (some 44), [11]⟩,
  ⟨.mv (.tmp 12), none, (some 45), [12]⟩,
  ⟨.iaddr 1 (.tmp 44) (.tmp 45), none, (some 46), [44, 45]⟩,
  ⟨.load none (.tmp 46), none, (some 47), [46]⟩,
  ⟨.mv (.tmp 10), none, (some 48), [10]⟩,
  ⟨.mv (.tmp 12), none, (some 49), [12]⟩,
  ⟨.iaddr 1 (.tmp 48) (.tmp 49), none, (some 50), [48, 49]⟩,
  ⟨.load none (.tmp 50), none, (some 51), [50]⟩,
  ⟨.conv .i64 (.tmp 51), none, (some 52), [51]⟩]
def m13r15 : List MOper := [⟨.bin .sub .other (.tmp 47) (.tmp 52), none, (some 53), [47, 52]⟩,
  ⟨.iaddr 1 (.tmp 44) (.tmp 45), none, (some 54), [44, 45]⟩,
  ⟨.store 1 (.tmp 54) (.tmp 53), none, none, [54, 53]⟩]
def m13r16 : List MOper := [⟨.bin .add .other (.tmp 41) (.lit (.int .i64 1)), none, (some 55), [41]⟩,
  ⟨.mv (.tmp 55), none, (some 41), [55]⟩]
def m13l17 : MCode := (.seq (.region m13r12 [1, 7, 8, 9, 10, 11, 25, 26, 27, 40, 41, 42])
  (.seq (.cond (.tmp 42)
  .skip
  (.exit 2))
  (.seq (.block 3 (.seq (.region m13r13 [1, 7, 8, 9, 10, 11, 12, 25, 26, 27, 40, 41])
  (.dregion m13r14 m13r15 [] [1, 7, 8, 9, 10, 11, 25, 26, 27, 40, 41])))
  (.region m13r16 [1, 7, 8, 9, 10, 11, 25, 26, 27, 40, 41]))))
def m13r18 : List MOper := [⟨.mv (.tmp 8), none, (some 56), [8]⟩,
  ⟨.mv (.tmp 9), none, (some 57), [9]⟩,
  ⟨.mv (.tmp 11), none, (some 58), [11]⟩,
  ⟨.call 26 [(.tmp 58)], none, (some 59), [58]⟩,
  ⟨.iaddr 1 (.tmp 56) (.tmp 57), none, (some 60), [56, 57]⟩,
  ⟨.store 1 (.tmp 60) (.tmp 59), none, none, [60, 59]⟩]
def m13r19 : List MOper := [⟨.bin .add .other (.tmp 27) (.lit (.int .i64 1)), none, (some 61), [27]⟩,
  ⟨.mv (.tmp 61), none, (some 27), [61]⟩]
def m13l20 : MCode := (.seq (.region m13r7 [1, 7, 8, 25, 26, 27, 28])
  (.seq (.cond (.tmp 28)
  .skip
  (.exit 0))
  (.seq (.block 1 (.seq (.region m13r8 [1, 7, 8, 9, 10, 25, 26, 27])
  (.seq (.region m13r9 [1, 7, 8, 9, 10, 11, 25, 26, 27])
  (.seq (.region m13r10 [1, 7, 8, 9, 10, 11, 25, 26, 27])
  (.seq (.seq (.region m13r11 [1, 7, 8, 9, 10, 11, 25, 26, 27, 40, 41])
  (.block 2 (.loop [1, 7, 8, 9, 10, 11, 25, 26, 27, 40, 41] m13l17)))
  (.seq .conv
  (.region m13r18 [1, 7, 8, 25, 26, 27])))))))
  (.region m13r19 [1, 7, 8, 25, 26, 27]))))
def m13r21 : List MOper := [⟨.mv (.tmp 8), none, (some 62), [8]⟩,
  ⟨.mv (.tmp 62), none, (some 4), [62]⟩,
  ⟨.mv (.lit (.int .u8 0)), none, (some 5), []⟩]
def m13 : MFunc := ⟨63, [.tmp 4, .tmp 5],
  (.seq (.region m13r0 [0, 1])
  (.seq (.seq (.region m13r1 [0, 1, 6])
  (.seq (.region m13r2 [0, 1, 6, 17])
  (.cond (.tmp 17)
  (.seq (.region m13r3 [4, 5])
  .ret)
  .skip)))
  (.seq (.region m13r4 [0, 1, 7])
  (.seq (.region m13r5 [0, 1, 7, 8])
  (.seq (.seq (.region m13r6 [1, 7, 8, 25, 26, 27])
  (.block 0 (.loop [1, 7, 8, 25, 26, 27] m13l20)))
  (.seq (.region m13r21 [4, 5])
  .ret))))))⟩
def h13 : List RH := [⟨[0, 1], 0, false, []⟩, ⟨[0, 1, 6], 0, false, []⟩, ⟨[0, 1, 6, 17], 0, false, []⟩, ⟨[4, 5], 0, false, []⟩, ⟨[0, 1, 7], 0, false, []⟩, ⟨[0, 1, 7, 8], 0, false, []⟩, ⟨[1, 7, 8, 25, 26, 27], 0, false, []⟩, ⟨[1, 7, 8, 25, 26, 27], 0, false, []⟩, ⟨[1, 7, 8, 25, 26, 27, 28], 0, false, []⟩, ⟨[1, 7, 8, 9, 10, 25, 26, 27], 0, false, []⟩, ⟨[1, 7, 8, 9, 10, 11, 25, 26, 27], 0, false, []⟩, ⟨[1, 7, 8, 9, 10, 11, 25, 26, 27], 0, false, []⟩, ⟨[1, 7, 8, 9, 10, 11, 25, 26, 27, 40, 41], 0, false, []⟩, ⟨[1, 7, 8, 9, 10, 11, 25, 26, 27, 40, 41], 0, false, []⟩, ⟨[1, 7, 8, 9, 10, 11, 25, 26, 27, 40, 41, 42], 0, false, []⟩, ⟨[1, 7, 8, 9, 10, 11, 12, 25, 26, 27, 40, 41], 0, false, []⟩, ⟨[1, 7, 8, 9, 10, 11, 25, 26, 27, 40, 41], 9, false, []⟩, ⟨[1, 7, 8, 9, 10, 11, 25, 26, 27, 40, 41], 0, false, []⟩, ⟨[1, 7, 8, 25, 26, 27], 0, true, []⟩, ⟨[1, 7, 8, 25, 26, 27], 0, false, []⟩, ⟨[4, 5], 0, false, []⟩]
theorem m13_ok : cmpFn Try.prog 13 h13 = some m13 := by kernel_rfl

/- dialtone/mixer.saturate -/
def m22r0 : List MOper := [⟨.mv (.lit (.int .i16 0)), none, (some 2), []⟩]
def m22r1 : List MOper := [⟨.mv (.tmp 0), none, (some 3), [0]⟩,
  ⟨.minmax false (.tmp 3) [(.lit (.int .i64 32767))], none, (some 4), [3]⟩,
  ⟨.minmax true (.lit (.int .i64 (-32768))) [(.tmp 4)], none, (some 5), [4]⟩,
  ⟨.conv .i16 (.tmp 5), none, (some 6), [5]⟩,
  ⟨.mv (.tmp 6), none, (some 2), [6]⟩]
def m22 : MFunc := ⟨7, [.tmp 2],
  (.seq (.region m22r0 [0])
  (.seq (.region m22r1 [2])
  .ret))⟩
def h22 : List RH := [⟨[0], 0, false, []⟩, ⟨[2], 0, false, []⟩]
theorem m22_ok : cmpFn Try.prog 22 h22 = some m22 := by kernel_rfl

/- dialtone/dialtoneref31.Saturated -/
def m23r0 : List MOper := [⟨.mv (.lit (.int .i16 0)), none, (some 2), []⟩]
def m23r1 : List MOper := [⟨.mv (.tmp 0), none, (some 3), [0]⟩,
  ⟨.minmax true (.tmp 3) [(.lit (.int .i64 (-32768)))], none, (some 4), [3]⟩,
  ⟨.minmax false (.tmp 4) [(.lit (.int .i64 32767))], none, (some 5), [4]⟩,
  ⟨.conv .i16 (.tmp 5), none, (some 6), [5]⟩,
  ⟨.mv (.tmp 6), none, (some 2), [6]⟩]
def m23 : MFunc := ⟨7, [.tmp 2],
  (.seq (.region m23r0 [0])
  (.seq (.region m23r1 [2])
  .ret))⟩
def h23 : List RH := [⟨[0], 0, false, []⟩, ⟨[2], 0, false, []⟩]
theorem m23_ok : cmpFn Try.prog 23 h23 = some m23 := by kernel_rfl

/- dialtone/mixer.check -/
def m24r0 : List MOper := [⟨.mv (.lit (.int .u8 0)), none, (some 4), []⟩]
def m24r1 : List MOper := [⟨.mv (.tmp 1), none, (some 6), [1]⟩,
  ⟨.bin .lss .other (.tmp 6) (.lit (.int .i64 0)), none, (some 7), [6]⟩,
  ⟨.mv (.tmp 7), none, (some 8), [7]⟩,
  ⟨.mv (.tmp 1), (some (8, false)), (some 9), [1]⟩,
  ⟨.bin .gtr .other (.tmp 9) (.lit (.int .i64 8000)), (some (8, false)), (some 10), [9]⟩,
  ⟨.pick (.tmp 8) (.lit (.bool true)) (.tmp 10), none, (some 11), [8, 10]⟩,
  ⟨.mv (.tmp 11), none, (some 5), [11]⟩]
def m24r2 : List MOper := [⟨.mv (.lit (.int .u8 3)), none, (some 4), []⟩]
def m24r3 : List MOper := [⟨.mv (.tmp 0), none, (some 13), [0]⟩,
  ⟨.len 1 (.tmp 13), none, (some 14), [13]⟩,
  ⟨.bin .gtr .other (.tmp 14) (.lit (.int .i64 64)), none, (some 15), [14]⟩,
  ⟨.mv (.tmp 15), none, (some 12), [15]⟩]
def m24r4 : List MOper := [⟨.mv (.lit (.int .u8 4)), none, (some 4), []⟩]
def m24r5 : List MOper := [⟨.mv (.lit (.int .u8 0)), none, (some 4), []⟩]
def m24 : MFunc := ⟨16, [.tmp 4],
  (.seq (.region m24r0 [0, 1])
  (.seq (.block 0 (.seq (.region m24r1 [0, 5])
  (.cond (.tmp 5)
  (.seq (.region m24r2 [4])
  .ret)
  (.seq (.region m24r3 [12])
  (.cond (.tmp 12)
  (.seq (.region m24r4 [4])
  .ret)
  .skip)))))
  (.seq (.region m24r5 [4])
  .ret)))⟩
def h24 : List RH := [⟨[0, 1], 0, false, []⟩, ⟨[0, 5], 0, false, []⟩, ⟨[4], 0, false, []⟩, ⟨[12], 0, false, []⟩, ⟨[4], 0, false, []⟩, ⟨[4], 0, false, []⟩]
theorem m24_ok : cmpFn Try.prog 24 h24 = some m24 := by kernel_rfl

/- dialtone/mixer.total -/
def m25r0 : List MOper := [⟨.mv (.lit .nils), none, (some 4), []⟩]
def m25r1 : List MOper := [⟨.mv (.tmp 1), none, (some 9), [1]⟩,
  ⟨.make [(.int .i64 0)] 8 (.tmp 9) (.tmp 9), none, (some 10), [9, 9]⟩,
  ⟨.mv (.tmp 10), none, (some 5), [10]⟩]
def m25r2 : List MOper := [⟨.mv (.tmp 0), none, (some 11), [0]⟩,
  ⟨.len 1 (.tmp 11), none, (some 12), [11]⟩,
  ⟨.mv (.lit (.int .i64 0)), none, (some 13), []⟩]
def m25r3 : List MOper := [⟨.bin .lss .other (.tmp 13) (.tmp 12), none, (some 14), [13, 12]⟩]
def m25r4 : List MOper := [⟨.iaddr 1 (.tmp 11) (.tmp 13), none, (some 15), [11, 13]⟩,
  ⟨.load none (.tmp 15), none, (some 16), [15]⟩,
  ⟨.mv (.tmp 16), none, (some 7), [16]⟩]
def m25r5 : List MOper := [⟨.mv (.tmp 1), none, (some 17), [1]⟩,
  ⟨.mv (.tmp 7), none, (some 18), [7]⟩,
  ⟨.len 1 (.tmp 18), none, (some 19), [18]⟩,
  ⟨.minmax false (.tmp 17) [(.tmp 19)], none, (some 20), [17, 19]⟩,
  ⟨.mv (.lit (.int .i64 0)), none, (some 21), []⟩]
def m25r6 : List MOper := [⟨.bin .lss .other (.tmp 21) (.tmp 20), none, (some 22), [21, 20]⟩]
def m25r7 : List MOper := [⟨.mv (.tmp 21), none, (some 23), [21]⟩,
  ⟨.mv (.tmp 23), none, (some 8), [23]⟩]
def m25r8 : List MOper := [⟨.mv (.tmp 5), none, (some 24), [5]⟩,
  ⟨.mv (.tmp 8), none, (some 25), [8]⟩,
  ⟨.iaddr 1 (.tmp 24) (.tmp 25), none, (some 26), [24, 25]⟩,
  ⟨.load none (.tmp 26), none, (some 27), [26]⟩,
  ⟨.mv (.tmp 7), none, (some 28), [7]⟩,
  ⟨.mv (.tmp 8), none, (some 29), [8]⟩,
  ⟨.iaddr 1 (.tmp 28) (.tmp 29), none, (some 30), [28, 29]⟩,
  ⟨.load none (.tmp 30), none, (some 31), [30]⟩,
  ⟨.conv .i64 (.tmp 31), none, (some 32), [31]⟩]
def m25r9 : List MOper := [⟨.bin .add .other (.tmp 27) (.tmp 32), none, (some 33), [27, 32]⟩,
  ⟨.iaddr 1 (.tmp 24) (.tmp 25), none, (some 34), [24, 25]⟩,
  ⟨.store 1 (.tmp 34) (.tmp 33), none, none, [34, 33]⟩]
def m25r10 : List MOper := [⟨.bin .add .other (.tmp 21) (.lit (.int .i64 1)), none, (some 35), [21]⟩,
  ⟨.mv (.tmp 35), none, (some 21), [35]⟩]
def m25l11 : MCode := (.seq (.region m25r6 [1, 5, 7, 11, 12, 13, 20, 21, 22])
  (.seq (.cond (.tmp 22)
  .skip
  (.exit 2))
  (.seq (.block 3 (.seq (.region m25r7 [1, 5, 7, 8, 11, 12, 13, 20, 21])
  (.dregion m25r8 m25r9 [] [1, 5, 7, 11, 12, 13, 20, 21])))
  (.region m25r10 [1, 5, 7, 11, 12, 13, 20, 21]))))
def m25r12 : List MOper := [⟨.bin .add .other (.tmp 13) (.lit (.int .i64 1)), none, (some 36), [13]⟩,
  ⟨.mv (.tmp 36), none, (some 13), [36]⟩]
def m25l13 : MCode := (.seq (.region m25r3 [1, 5, 11, 12, 13, 14])
  (.seq (.cond (.tmp 14)
  .skip
  (.exit 0))
  (.seq (.block 1 (.seq (.region m25r4 [1, 5, 7, 11, 12, 13])
  (.seq (.region m25r5 [1, 5, 7, 11, 12, 13, 20, 21])
  (.block 2 (.loop [1, 5, 7, 11, 12, 13, 20, 21] m25l11)))))
  (.region m25r12 [1, 5, 11, 12, 13]))))
def m25r14 : List MOper := [⟨.mv (.tmp 5), none, (some 37), [5]⟩,
  ⟨.mv (.tmp 37), none, (some 4), [37]⟩]
def m25 : MFunc := ⟨38, [.tmp 4],
  (.seq (.region m25r0 [0, 1])
  (.seq (.region m25r1 [0, 1, 5])
  (.seq (.seq (.region m25r2 [1, 5, 11, 12, 13])
  (.block 0 (.loop [1, 5, 11, 12, 13] m25l13)))
  (.seq (.region m25r14 [4])
  .ret))))⟩
def h25 : List RH := [⟨[0, 1], 0, false, []⟩, ⟨[0, 1, 5], 0, false, []⟩, ⟨[1, 5, 11, 12, 13], 0, false, []⟩, ⟨[1, 5, 11, 12, 13], 0, false, []⟩, ⟨[1, 5, 11, 12, 13, 14], 0, false, []⟩, ⟨[1, 5, 7, 11, 12, 13], 0, false, []⟩, ⟨[1, 5, 7, 11, 12, 13, 20, 21], 0, false, []⟩, ⟨[1, 5, 7, 11, 12, 13, 20, 21], 0, false, []⟩, ⟨[1, 5, 7, 11, 12, 13, 20, 21, 22], 0, false, []⟩, ⟨[1, 5, 7, 8, 11, 12, 13, 20, 21], 0, false, []⟩, ⟨[1, 5, 7, 11, 12, 13, 20, 21], 9, false, []⟩, ⟨[1, 5, 7, 11, 12, 13, 20, 21], 0, false, []⟩, ⟨[1, 5, 11, 12, 13], 0, false, []⟩, ⟨[4], 0, false, []⟩]
theorem m25_ok : cmpFn Try.prog 25 h25 = some m25 := by kernel_rfl

/- dialtone/mixer.saturated -/
def m26r0 : List MOper := [⟨.mv (.lit .nils), none, (some 2), []⟩]
def m26r1 : List MOper := [⟨.mv (.tmp 0), none, (some 6), [0]⟩,
  ⟨.len 1 (.tmp 6), none, (some 7), [6]⟩,
  ⟨.make [(.int .i16 0)] 2 (.tmp 7) (.tmp 7), none, (some 8), [7, 7]⟩,
  ⟨.mv (.tmp 8), none, (some 3), [8]⟩]
def m26r2 : List MOper := [⟨.mv (.tmp 0), none, (some 9), [0]⟩,
  ⟨.len 1 (.tmp 9), none, (some 10), [9]⟩,
  ⟨.mv (.lit (.int .i64 0)), none, (some 11), []⟩]
def m26r3 : List MOper := [⟨.bin .lss .other (.tmp 11) (.tmp 10), none, (some 12), [11, 10]⟩]
def m26r4 : List MOper := [⟨.mv (.tmp 11), none, (some 13), [11]⟩,
  ⟨.iaddr 1 (.tmp 9) (.tmp 11), none, (some 14), [9, 11]⟩,
  ⟨.load none (.tmp 14), none, (some 15), [14]⟩,
  ⟨.mv (.tmp 13), none, (some 4), [13]⟩,
  ⟨.mv (.tmp 15), none, (some 5), [15]⟩]
def m26r5 : List MOper := [⟨.mv (.tmp 3), none, (some 16), [3]⟩,
  ⟨.mv (.tmp 4), none, (some 17), [4]⟩,
  ⟨.mv (.tmp 5), none, (some 18), [5]⟩,
  ⟨.call 22 [(.tmp 18)], none, (some 19), [18]⟩,
  ⟨.iaddr 1 (.tmp 16) (.tmp 17), none, (some 20), [16, 17]⟩,
  ⟨.store 1 (.tmp 20) (.tmp 19), none, none, [20, 19]⟩]
def m26r6 : List MOper := [⟨.bin .add .other (.tmp 11) (.lit (.int .i64 1)), none, (some 21), [11]⟩,
  ⟨.mv (.tmp 21), none, (some 11), [21]⟩]
def m26l7 : MCode := (.seq (.region m26r3 [3, 9, 10, 11, 12])
  (.seq (.cond (.tmp 12)
  .skip
  (.exit 0))
  (.seq (.block 1 (.seq (.region m26r4 [3, 4, 5, 9, 10, 11])
  (.region m26r5 [3, 9, 10, 11])))
  (.region m26r6 [3, 9, 10, 11]))))
def m26r8 : List MOper := [⟨.mv (.tmp 3), none, (some 22), [3]⟩,
  ⟨.mv (.tmp 22), none, (some 2), [22]⟩]
def m26 : MFunc := ⟨23, [.tmp 2],
  (.seq (.region m26r0 [0])
  (.seq (.region m26r1 [0, 3])
  (.seq (.seq (.region m26r2 [3, 9, 10, 11])
  (.block 0 (.loop [3, 9, 10, 11] m26l7)))
  (.seq (.region m26r8 [2])
  .ret))))⟩
def h26 : List RH := [⟨[0], 0, false, []⟩, ⟨[0, 3], 0, false, []⟩, ⟨[3, 9, 10, 11], 0, false, []⟩, ⟨[3, 9, 10, 11], 0, false, []⟩, ⟨[3, 9, 10, 11, 12], 0, false, []⟩, ⟨[3, 4, 5, 9, 10, 11], 0, false, []⟩, ⟨[3, 9, 10, 11], 0, false, []⟩, ⟨[3, 9, 10, 11], 0, false, []⟩, ⟨[2], 0, false, []⟩]
theorem m26_ok : cmpFn Try.prog 26 h26 = some m26 := by kernel_rfl

end Go.Ab.Try.S
