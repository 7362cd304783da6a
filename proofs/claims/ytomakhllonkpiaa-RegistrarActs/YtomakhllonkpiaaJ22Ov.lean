/- The check of the journal, worked out at once in the evaluation of closed calls. Conditions: none. -/
import Derived.Test.YtomakhllonkpiaaJ22Check
import Derived.Test.YtomakhllonkpiaaAbFrame
import Derived.Test.YtomakhllonkpiaaAbEval
namespace Go.Ab.Try.S
open Go.Proofs

def checkOv : List AV → Heap → Option (AV × Heap)
  | [.str _], _ => none
  | [c], H => (elems H c).bind fun rows => (bytesOf rows).bind fun b => if (AV.beqLL rows (rowsU8 b) && Nat.blt b.length 9223372036854775807) = true then some (.int .u32 (crc b), H) else none
  | _, _ => none

theorem checkOv_ok : ∀ args H v H', checkOv args H = some (v, H') → Spec Try.prog 68 args H v H' := by
  intro args H v H' h
  unfold checkOv at h
  split at h
  · cases h
  · rename_i c hc
    simp only [Option.bind_eq_some_iff] at h
    obtain ⟨rows, h1, b, h2, h3⟩ := h
    split at h3
    case isFalse => cases h3
    rename_i hq
    rw [Bool.and_eq_true] at hq
    obtain ⟨q1, q2⟩ := hq
    have q3 := AV.beqLL_ok q1
    have q4 : b.length < 9223372036854775807 := by simp [Nat.blt, Nat.ble_eq] at q2; omega
    cases h3
    have hs := check68 b q4
    refine hs.lend rfl (fun i c' c'' a1 a2 => ?_) .int
    cases i with
    | succ i => simp at a1
    | zero =>
      simp at a1 a2
      subst a1 a2
      have hcl : ∀ (i : Nat) row (j : Nat) c, rows[i]? = some row → row[j]? = some c → Cl 0 c := by
        rw [q3]
        exact fun i row j c h1 h2 => ((rowsU8_plain b) row (List.mem_of_getElem? h1) c (List.mem_of_getElem? h2)).2
      rw [← q3]
      cases c <;> simp only [elems, reduceCtorEq, Option.some.injEq, Option.bind_eq_some_iff] at h1
      case str s => exact absurd rfl (hc s)
      case nils => subst h1; exact .nils
      case islice => subst h1; exact .pure (.islice hcl)
      case slice r g i n =>
        refine .slice ?_ hcl
        simp only [elems, Option.bind_eq_some_iff]
        exact h1
  · cases h
end Go.Ab.Try.S
