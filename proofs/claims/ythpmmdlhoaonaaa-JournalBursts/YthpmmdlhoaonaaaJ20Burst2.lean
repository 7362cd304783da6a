/- Scan of a journal of which one byte is changed. Conditions: none. -/
import Derived.Test.YthpmmdlhoaonaaaJ20Byte
import Derived.Test.YthpmmdlhoaonaaaJ20Law4
namespace Go.Ab.Try.S

theorem scan_flip {l : List Rcd} {k p : Nat} {x : UInt8} (hl : l.length ≤ 20) (hd : ∀ r ∈ l, r.2.length ≤ 200) (hk : k < l.length) (h1 : endB l k ≤ p) (h2 : p < endB l (k + 1)) (hp : p < (jrnB l).length) (hx : x ≠ (jrnB l)[p]) :
    ∃ e : Nat, (e = 5 ∨ e = 11) ∧ scanV ((jrnB l).set p x) = .tup [.islice (recRows (l.take k)), .int .i64 (endB l k : Nat), .int .u8 (e : Nat)] := by
  have hs := jrn_split l 0 k hk
  simp only [Nat.zero_add] at hs
  obtain ⟨R, hR⟩ : ∃ R, R = jrnF (k + 1) (l.drop (k + 1)) := ⟨_, rfl⟩
  rw [← hR] at hs
  have hA : (jrnF 0 (l.take k)).length = endB l k := rfl
  have hdk := hd _ (List.getElem_mem hk)
  have hE := enc_len k l[k].1 l[k].2
  rw [endB_succ hk] at h2
  have hi : p - endB l k < (encB k l[k].1 l[k].2).length := by omega
  have eset : (jrnB l).set p x = jrnF 0 (l.take k) ++ ((encB k l[k].1 l[k].2).set (p - endB l k) x ++ R) := by
    unfold jrnB
    rw [hs, List.set_append_right _ _ (by omega), hA, List.set_append_left _ _ hi]
  have hx2 : x ≠ (encB k l[k].1 l[k].2)[p - endB l k] := by
    intro h
    apply hx
    have h3 : (jrnB l)[p]? = some x := by
      unfold jrnB
      rw [hs, List.getElem?_append_right (by omega), hA, List.getElem?_append_left hi, List.getElem?_eq_getElem hi, h]
    rw [List.getElem?_eq_getElem hp] at h3
    exact (Option.some.inj h3).symm
  have hlk : (l.take k).length = k := by rw [List.length_take]; omega
  have key : ∀ e : Nat, oneB ((encB k l[k].1 l[k].2).set (p - endB l k) x ++ R) k = .inr e → scanV ((jrnB l).set p x) = .tup [.islice (recRows (l.take k)), .int .i64 (endB l k : Nat), .int .u8 (e : Nat)] := by
    intro e he
    have hne : (encB k l[k].1 l[k].2).set (p - endB l k) x ++ R ≠ [] := by
      intro h
      have := congrArg List.length h
      simp only [List.length_append, List.length_set, List.length_nil] at this
      omega
    have hsc := scan_pre (l.take k) 0 ((jrnB l).set p x).length e ((encB k l[k].1 l[k].2).set (p - endB l k) x ++ R) (fun r hr => Nat.le_trans (hd r (List.mem_of_mem_take hr)) (by omega)) (by rw [hlk]; omega) hne (by rw [hlk, Nat.zero_add]; exact he) (by rw [eset]; exact Nat.le_of_eq (by simp only [List.length_append]))
    have e1 : scanB ((jrnB l).set p x) = (l.take k, (encB k l[k].1 l[k].2).set (p - endB l k) x ++ R, e) := by
      unfold scanB
      rw [← hsc]
      congr 1
    unfold scanV
    rw [e1]
    have e2 : ((jrnB l).set p x).length = endB l k + ((encB k l[k].1 l[k].2).set (p - endB l k) x ++ R).length := by rw [eset, List.length_append, hA]
    rw [e2]
    have e3 : ((endB l k + ((encB k l[k].1 l[k].2).set (p - endB l k) x ++ R).length : Nat) : Int) - (((encB k l[k].1 l[k].2).set (p - endB l k) x ++ R).length : Nat) = (endB l k : Nat) := by omega
    simp only [e3]
  rcases oneB_byte (rest := R) (by omega : k < 1048576) (by omega) hi hx2 with h | h
  · exact ⟨5, .inl rfl, key 5 h⟩
  · exact ⟨11, .inr rfl, key 11 h⟩
end Go.Ab.Try.S

/- A journal of which some successive bits of a record's data are changed. Conditions: none. -/
namespace Go.Ab.Try.S

theorem leN_app : ∀ (h d d' : List UInt8), leN (h ++ d) ^^^ leN (h ++ d') = (leN d ^^^ leN d') * 2 ^ (8 * h.length)
  | [], d, d' => by simp
  | y :: t, d, d' => by
    have ih := leN_app t d d'
    simp only [List.cons_append, leN, List.length_cons]
    rw [xor_add256 _ _ y.toNat_lt, xor_add256 _ _ y.toNat_lt, xor_left, ← mul_pow_xor, ih, Nat.mul_assoc, ← Nat.pow_add]
    congr 2

theorem xor_tri (a b c : Nat) : a ^^^ c = (a ^^^ b) ^^^ (b ^^^ c) := by
  apply Nat.eq_of_testBit_eq
  intro i
  simp only [Nat.testBit_xor]
  generalize b.testBit i = p
  cases p <;> simp

theorem burst_step {d d' : List UInt8} {W o i p q : Nat} {x : UInt8} (hx : leN d ^^^ leN d' = W * 2 ^ o) (hW : W < 2 ^ i) (hp : o + i = 8 * p + q) (hpl : p < d'.length) (hb : x.toNat = d'[p].toNat ^^^ 2 ^ q) :
    ∃ W', leN d ^^^ leN (d'.set p x) = W' * 2 ^ o ∧ W' < 2 ^ (i + 1) ∧ W' ≠ 0 := by
  have h1 := leN_set d' p x hpl
  have h2 : d'[p].toNat ^^^ x.toNat = 2 ^ q := by
    rw [hb, ← Nat.xor_assoc, Nat.xor_self, Nat.zero_xor]
  rw [h2, ← Nat.pow_add, show q + 8 * p = i + o by omega, Nat.pow_add] at h1
  refine ⟨W ^^^ 2 ^ i, ?_, ?_, ?_⟩
  · rw [xor_tri _ (leN d') _, hx, h1, mul_pow_xor]
  · refine Nat.xor_lt_two_pow (Nat.lt_trans hW ?_) ?_ <;> exact Nat.pow_lt_pow_right (by decide) (by omega)
  · intro h
    have h3 := congrArg (fun z => z.testBit i) h
    simp only [Nat.testBit_xor, Nat.testBit_lt_two_pow hW, Nat.testBit_two_pow_self, Nat.zero_testBit] at h3
    cases h3

def headB (n : Nat) (k : UInt8) (m : Nat) : List UInt8 := 167 :: k :: (numB n 4 ++ numB m 2 ++ numB (65535 - m) 2)
theorem headB_len (n : Nat) (k : UInt8) (m : Nat) : (headB n k m).length = 10 := by simp [headB, numB_len]
theorem encH_head (n : Nat) (k : UInt8) (d : List UInt8) : encH n k d = headB n k d.length ++ d := by simp [encH, headB]

/-- The journal around the data of record k. -/
def preB (l : List Rcd) (k : Nat) (h : k < l.length) : List UInt8 := jrnF 0 (l.take k) ++ headB k l[k].1 l[k].2.length
def postB (l : List Rcd) (k : Nat) (h : k < l.length) : List UInt8 := numB (crc (encH k l[k].1 l[k].2)) 4 ++ jrnF (k + 1) (l.drop (k + 1))
theorem jrn_data {l : List Rcd} {k : Nat} (h : k < l.length) : jrnB l = preB l k h ++ (l[k].2 ++ postB l k h) := by
  have hs := jrn_split l 0 k h
  simp only [Nat.zero_add] at hs
  unfold jrnB
  rw [hs]
  unfold preB postB encB
  rw [encH_head]
  simp only [List.append_assoc]
theorem preB_len {l : List Rcd} {k : Nat} (h : k < l.length) : (preB l k h).length = endB l k + 10 := by
  unfold preB
  rw [List.length_append, headB_len]
  rfl

theorem scan_bad {l : List Rcd} {k e : Nat} {B : List UInt8} (hl : l.length ≤ 20) (hd : ∀ r ∈ l, r.2.length ≤ 200) (hk : k ≤ l.length) (hne : B ≠ []) (he : oneB B k = .inr e) :
    scanV (jrnF 0 (l.take k) ++ B) = .tup [.islice (recRows (l.take k)), .int .i64 (endB l k : Nat), .int .u8 (e : Nat)] := by
  have hA : (jrnF 0 (l.take k)).length = endB l k := rfl
  have hlk : (l.take k).length = k := by rw [List.length_take]; omega
  have hsc := scan_pre (l.take k) 0 (jrnF 0 (l.take k) ++ B).length e B (fun r hr => Nat.le_trans (hd r (List.mem_of_mem_take hr)) (by omega)) (by rw [hlk]; omega) hne (by rw [hlk, Nat.zero_add]; exact he) (Nat.le_of_eq (by simp only [List.length_append]))
  have e1 : scanB (jrnF 0 (l.take k) ++ B) = (l.take k, B, e) := by
    unfold scanB
    rw [← hsc]
  unfold scanV
  rw [e1]
  have e2 : (jrnF 0 (l.take k) ++ B).length = endB l k + B.length := by rw [List.length_append, hA]
  rw [e2]
  have e3 : ((endB l k + B.length : Nat) : Int) - (B.length : Nat) = (endB l k : Nat) := by omega
  simp only [e3]

theorem scan_burst {l : List Rcd} {k W o : Nat} {d' : List UInt8} (hl : l.length ≤ 20) (hd : ∀ r ∈ l, r.2.length ≤ 200) (hk : k < l.length) (hd' : d'.length = l[k].2.length) (hx : leN l[k].2 ^^^ leN d' = W * 2 ^ o) (hW : W < 4294967296) (h0 : W ≠ 0) (ho : o ≤ 8 * l[k].2.length) :
    scanV (preB l k hk ++ (d' ++ postB l k hk)) = .tup [.islice (recRows (l.take k)), .int .i64 (endB l k : Nat), .int .u8 (11 : Nat)] := by
  have hdk := hd _ (List.getElem_mem hk)
  have e : preB l k hk ++ (d' ++ postB l k hk) = jrnF 0 (l.take k) ++ (encH k l[k].1 d' ++ (numB (crc (encH k l[k].1 l[k].2)) 4 ++ jrnF (k + 1) (l.drop (k + 1)))) := by
    unfold preB postB
    rw [encH_head k l[k].1 d', hd']
    simp only [List.append_assoc]
  rw [e]
  refine scan_bad hl hd (by omega) ?_ ?_
  · intro h
    have := congrArg List.length h
    simp only [List.length_append, encH_len, List.length_nil] at this
    omega
  · refine oneB_bad (by omega) (by omega) (numB_len _ 4) fun h => ?_
    have h1 := numB_inj (crc_lt _) (crc_lt _) h
    rw [encH_head, encH_head, hd'] at h1
    have h2 := leN_app (headB k l[k].1 l[k].2.length) l[k].2 d'
    rw [hx, Nat.mul_assoc, ← Nat.pow_add] at h2
    exact crc_ne (by simp [hd']) h2 (by simp only [List.length_append]; omega) hW h0 h1.symm
end Go.Ab.Try.S
