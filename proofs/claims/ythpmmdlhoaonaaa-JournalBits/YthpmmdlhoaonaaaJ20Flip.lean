/- Scan of a journal of which one byte is changed. Conditions: none. -/
import Derived.Test.YthpmmdlhoaonaaaJ20Byte
import Derived.Test.YthpmmdlhoaonaaaJ20Law4
namespace Go.Ab.Try.S

theorem scan_flip {l : List Rcd} {k p : Nat} {x : UInt8} (hl : l.length ≤ 20) (hd : ∀ r ∈ l, r.2.length ≤ 200) (hk : k < l.length) (h1 : endB l k ≤ p) (h2 : p < endB l (k + 1)) (hp : p < (jrnB l).length) (hx : x ≠ (jrnB l)[p]) :
    ∃ e : Nat, (e = 5 ∨ e = 11) ∧ scanV ((jrnB l).set p x) = .tup [.islice (recRows (l.take k)), .int .i64 (endB l k : Nat), .int .u8 (e : Nat)] := by
  have hs := jrn_split l 0 k hk
  simp only [Nat.zero_add] at hs
  obtain ⟨R, hR⟩ : ∃ R, R = jrnF (k + 1) (l.drop (k + 1)) := ⟨_, rfl⟩
  rw [← hR] at hs
  have hA : (jrnF 0 (l.take k)).length = endB l k := rfl
  have hdk := hd _ (List.getElem_mem hk)
  have hE := enc_len k l[k].1 l[k].2
  rw [endB_succ hk] at h2
  have hi : p - endB l k < (encB k l[k].1 l[k].2).length := by omega
  have eset : (jrnB l).set p x = jrnF 0 (l.take k) ++ ((encB k l[k].1 l[k].2).set (p - endB l k) x ++ R) := by
    unfold jrnB
    rw [hs, List.set_append_right _ _ (by omega), hA, List.set_append_left _ _ hi]
  have hx2 : x ≠ (encB k l[k].1 l[k].2)[p - endB l k] := by
    intro h
    apply hx
    have h3 : (jrnB l)[p]? = some x := by
      unfold jrnB
      rw [hs, List.getElem?_append_right (by omega), hA, List.getElem?_append_left hi, List.getElem?_eq_getElem hi, h]
    rw [List.getElem?_eq_getElem hp] at h3
    exact (Option.some.inj h3).symm
  have hlk : (l.take k).length = k := by rw [List.length_take]; omega
  have key : ∀ e : Nat, oneB ((encB k l[k].1 l[k].2).set (p - endB l k) x ++ R) k = .inr e → scanV ((jrnB l).set p x) = .tup [.islice (recRows (l.take k)), .int .i64 (endB l k : Nat), .int .u8 (e : Nat)] := by
    intro e he
    have hne : (encB k l[k].1 l[k].2).set (p - endB l k) x ++ R ≠ [] := by
      intro h
      have := congrArg List.length h
      simp only [List.length_append, List.length_set, List.length_nil] at this
      omega
    have hsc := scan_pre (l.take k) 0 ((jrnB l).set p x).length e ((encB k l[k].1 l[k].2).set (p - endB l k) x ++ R) (fun r hr => Nat.le_trans (hd r (List.mem_of_mem_take hr)) (by omega)) (by rw [hlk]; omega) hne (by rw [hlk, Nat.zero_add]; exact he) (by rw [eset]; exact Nat.le_of_eq (by simp only [List.length_append]))
    have e1 : scanB ((jrnB l).set p x) = (l.take k, (encB k l[k].1 l[k].2).set (p - endB l k) x ++ R, e) := by
      unfold scanB
      rw [← hsc]
      congr 1
    unfold scanV
    rw [e1]
    have e2 : ((jrnB l).set p x).length = endB l k + ((encB k l[k].1 l[k].2).set (p - endB l k) x ++ R).length := by rw [eset, List.length_append, hA]
    rw [e2]
    have e3 : ((endB l k + ((encB k l[k].1 l[k].2).set (p - endB l k) x ++ R).length : Nat) : Int) - (((encB k l[k].1 l[k].2).set (p - endB l k) x ++ R).length : Nat) = (endB l k : Nat) := by omega
    simp only [e3]
  rcases oneB_byte (rest := R) (by omega : k < 1048576) (by omega) hi hx2 with h | h
  · exact ⟨5, .inl rfl, key 5 h⟩
  · exact ⟨11, .inr rfl, key 11 h⟩
end Go.Ab.Try.S
