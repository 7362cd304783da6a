/- Formed of the program. Conditions: none. -/
import Derived.Test.YtomakhllonkpiaaJ22Num2
namespace Go.Ab.Try.S
open Go.Proofs

def e30 : Entry Try.prog where
  f := 30
  α := { l : List (List UInt8) // l.length ≤ 100000 }
  enc l := [.islice (ptRows l.1), .func 31 [] []]
  res l := .bool (!l.1.all pB)
  inj a b h := by
    have : a.1 = b.1 := ptRows_inj (by simpa using h)
    rw [this]
  ok l H := (bad30 l.1 l.2).frame (Cls.cons (cl_plain (ptRows_plain _)) (Cls.cons (.func Cls.nil Cls.nil) .nil)) .bool H
def T11 : List (Entry Try.prog) := [e29, e30]
section
variable {H : Heap} {K : AV → Heap → Prop} {n a b : Int}
theorem t11_w : callK (CE T11) 29 [.int .i64 n, .int .i64 a, .int .i64 b] H K = K (.bool (wi n a b)) H := callK_E (es := T11) (e := e29) rfl (n, a, b)
theorem t11_p {l : List (List UInt8)} (hl : l.length ≤ 100000) : callK (CE T11) 30 [.islice (ptRows l), .func 31 [] []] H K = K (.bool (!l.all pB)) H := callK_E (es := T11) (e := e30) rfl ⟨l, hl⟩
end

def Q2 (v : Bool) : Ex → Env → Heap → Prop := fun e σ H1 => (e = .normal ∨ e = .ret) ∧ Fin [] (σ.get 2) H1 (.bool v) []
theorem Q2_ret {v x : Bool} {σ : Env} {H : Heap} (h1 : σ.get 2 = .bool x) (h : x = v) : Q2 v .ret σ H := ⟨.inr rfl, by rw [h1]; exact fin_bool h⟩

def m11L : MCode := (.seq (.region m11r9 [1, 3]) (.seq (.seq (.region m11r10 [3, 90, 91, 92]) (.block 1 (.loop [3, 90, 91, 92] m11l17))) (.seq (.region m11r18 [2]) .ret)))
def V11 (r : Rg) (m : Nat) (σ : Env) (H : Heap) : Prop := ∃ (k : Nat) (es : List (AV × AV × Nat)) (cl : Nat) (N : Heap), m = r.cs.length - k ∧ k ≤ r.cs.length ∧ goodC [] r.cs = goodC (r.cs.take k) (r.cs.drop k) ∧ KeysOf es ((r.cs.take k).map Ct.uri) ∧
  H = .rows 0 9 [r.row] :: .map es cl :: N ∧ σ = [(3, .map 1), (90, .islice (ctRows r.cs)), (91, .int .i64 (r.cs.length : Nat)), (92, .int .i64 k)]
theorem loop11 (r : Rg) (hl : r.cs.length ≤ 1000) (v : Bool) (hv : v = goodC [] r.cs) (σ : Env) (g1 : σ.get 1 = .ptr 0 0 0 0) : wpC (CE T11) [] m11L σ [.rows 0 9 [r.row]] (Q2 v) := by
  unfold m11L
  simp [m11r9, m11r10, g1, Rg.row]
  refine vc_loop (V11 r) r.cs.length ⟨0, [], 0, [], rfl, by omega, rfl, by simp [KeysOf], rfl, rfl⟩ ?_
  rintro m σ H ⟨k, es, cl, N, rfl, hk, hgood, hkeys, rfl, rfl⟩
  by_cases hlt : k < r.cs.length
  · have hlt2 : (k : Int) < r.cs.length := by omega
    have z : FI (wrp .i64 ((k : Int) + 1)) (k + 1) := fi64 (by omega)
    rw [goodC_step hlt] at hgood
    obtain ⟨c, hck⟩ : ∃ c, c = r.cs[k] := ⟨_, rfl⟩
    rw [← hck] at hgood
    simp [m11l17, m11r11, m11r12, hlt, hlt2, iaddr_is, ← hck, Ct.row]
    obtain ⟨us, hus⟩ : ∃ us, us = (r.cs.take k).map Ct.uri := ⟨_, rfl⟩
    rw [freshC_mem, ← hus] at hgood
    rw [← hus] at hkeys
    have hlook : ∀ x N', lookAV (x :: .map es cl :: N') 2 (.bool false) false (.map 1) (.str c.uri) = some (.bool (decide (c.uri ∈ us))) := fun x N' => look_keys (H := x :: .map es cl :: N') rfl hkeys
    simp +contextual [m11r13, t11_w, hlook, -condK_bool]
    refine condK_of (y := !cB c || decide (c.uri ∈ us)) (by simp [cB]) (fun h => ?_) (fun h => ?_)
    · simp [m11r14]
      refine Q2_ret rfl ?_
      rw [hv, hgood]
      simp only [Bool.or_eq_true, Bool.not_eq_true'] at h
      rcases h with h | h
      · rw [h]; rfl
      · rw [h]; simp
    simp only [Bool.or_eq_false_iff, Bool.not_eq_false', decide_eq_false_iff_not] at h
    obtain ⟨hfit, hnew⟩ := h
    have hmu := fun x N' => (mupd_keys (H := x :: .map es cl :: N') (r := 1) rfl hkeys hnew).1
    have hkeys' := (mupd_keys (H := [.gone, .map es cl]) (r := 1) rfl hkeys hnew).2
    have hus' : us ++ [c.uri] = (r.cs.take (k + 1)).map Ct.uri := by
      rw [List.take_succ_eq_append_getElem hlt, List.map_append, ← hus, hck]; rfl
    rw [hus'] at hkeys'
    rw [hfit, decide_eq_false hnew] at hgood
    simp only [Bool.not_false, Bool.true_and] at hgood
    simp [m11r15, hmu, m11r16, z.o]
    exact ⟨_, Nat.sub_succ_lt_self _ _ hlt, k + 1, _, _, _, rfl, hlt, hgood, hkeys', rfl, rfl⟩
  · have hk2 : k = r.cs.length := by omega
    rw [goodC_end hk2] at hgood
    subst hk2
    simp [m11l17, m11r11, m11r18]
    exact Q2_ret rfl (by rw [hv, hgood])

def u7 : MCode := (.seq (.region m11r7 [1, 78]) (.cond (.tmp 78) (.seq (.region m11r8 [2]) .ret) .skip))
def u5 : MCode := (.seq (.region m11r5 [1, 51]) (.cond (.tmp 51) (.seq (.region m11r6 [2]) .ret) u7))
def u3 : MCode := (.seq (.region m11r3 [1, 31]) (.cond (.tmp 31) (.seq (.region m11r4 [2]) .ret) u5))
def R11 (L : MCode) (v : Bool) : Ex → Env → Heap → Prop := blkK 0 (seqK (CE T11) [] L (Q2 v))
theorem R11_ret {L : MCode} {v x : Bool} {σ : Env} {H : Heap} (h1 : σ.get 2 = .bool x) (h : x = v) : R11 L v .ret σ H := Q2_ret h1 h

theorem st7 (r : Rg) (hp : r.path.length ≤ 1000) (L : MCode) (v : Bool) (bad : fD r = false → v = false) (hL : fD r = true → ∀ σ : Env, σ.get 1 = .ptr 0 0 0 0 → wpC (CE T11) [] L σ [.rows 0 9 [r.row]] (Q2 v)) (σ : Env) (g1 : σ.get 1 = .ptr 0 0 0 0) :
    wpC (CE T11) [] u7 σ [.rows 0 9 [r.row]] (R11 L v) := by
  unfold u7
  have hp2 : r.path.length ≤ 100000 := by omega
  simp +contextual [m11r7, g1, Rg.row, t11_p hp2, -condK_bool]
  refine condK_of (y := !fD r) (by unfold fD; rw [show decide ((10 : Int) < (r.path.length : Nat)) = decide (10 < r.path.length) by rw [decide_eq_decide]; omega]; cases decide (10 < r.path.length) <;> rfl) (fun h => ?_) (fun h => ?_)
  · simp [m11r8]
    exact R11_ret rfl (bad (by simpa using h)).symm
  · exact hL (by simpa using h) _ rfl
theorem st5 (r : Rg) (L : MCode) (v : Bool) (bad : fC r = false → v = false) (hL : fC r = true → ∀ σ : Env, σ.get 1 = .ptr 0 0 0 0 → wpC (CE T11) [] u7 σ [.rows 0 9 [r.row]] (R11 L v)) (σ : Env) (g1 : σ.get 1 = .ptr 0 0 0 0) :
    wpC (CE T11) [] u5 σ [.rows 0 9 [r.row]] (R11 L v) := by
  unfold u5
  generalize u7 = T at *
  unfold fC at bad hL
  by_cases a : 255 < r.inst.length
  · have a' : (255 : Int) < r.inst.length := by omega
    have a2 := Int.not_le.2 a'
    simp [m11r5, g1, Rg.row, a', a2, m11r6]
    exact R11_ret rfl (bad (by simp [a])).symm
  have a' : ¬ (255 : Int) < r.inst.length := by omega
  have a2 := Int.not_lt.1 a'
  cases w : wi r.flow 0 2147483647 with
  | false =>
    simp [m11r5, g1, Rg.row, a', a2, t11_w, w, m11r6]
    exact R11_ret rfl (bad (by simp [w])).symm
  | true =>
  have hw := w
  unfold wi at hw
  simp only [Bool.and_eq_true, decide_eq_true_eq] at hw
  by_cases z : 0 < r.flow
  case neg =>
    have z' : r.flow = 0 := by omega
    have z2 := Int.not_lt.1 z
    simp [m11r5, g1, Rg.row, a', a2, t11_w, w, z]
    exact hL (by rw [w, decide_eq_false a, decide_eq_true z']; rfl) _ rfl
  have z' : ¬ r.flow = 0 := by omega
  have z2 := Int.not_le.2 z
  by_cases i : r.inst = []
  · simp [m11r5, g1, Rg.row, t11_w, w, z, i, m11r6]
    exact R11_ret rfl (bad (by simp [w, z', i])).symm
  by_cases c1 : 1 < r.cs.length
  · have c1' : (1 : Int) < r.cs.length := by omega
    have c2 := Int.not_le.2 c1'
    simp [m11r5, g1, Rg.row, a', a2, t11_w, w, z, i, c1', m11r6]
    exact R11_ret rfl (bad (by simp [a, w, z', i, c1])).symm
  · have c1' : ¬ (1 : Int) < r.cs.length := by omega
    have c2 := Int.not_lt.1 c1'
    simp [m11r5, g1, Rg.row, a', a2, t11_w, w, z, i, c1']
    exact hL (by simp [a, w, z', i, c1]) _ rfl
theorem st3 (r : Rg) (L : MCode) (v : Bool) (bad : fB r = false → v = false) (hL : fB r = true → ∀ σ : Env, σ.get 1 = .ptr 0 0 0 0 → wpC (CE T11) [] u5 σ [.rows 0 9 [r.row]] (R11 L v)) (σ : Env) (g1 : σ.get 1 = .ptr 0 0 0 0) :
    wpC (CE T11) [] u3 σ [.rows 0 9 [r.row]] (R11 L v) := by
  unfold u3
  generalize u5 = T at *
  unfold fB at bad hL
  by_cases a : 20 < r.cs.length
  · have a' : (20 : Int) < r.cs.length := by omega
    have a2 := Int.not_le.2 a'
    simp [m11r3, g1, Rg.row, a', m11r4]
    exact R11_ret rfl (bad (by simp [a])).symm
  have a' : ¬ (20 : Int) < r.cs.length := by omega
  have a2 := Int.not_lt.1 a'
  cases s : r.star with
  | false =>
    simp [m11r3, g1, Rg.row, a', s]
    have := hL (by simp [a, s])
    rw [← s]
    exact this _ rfl
  | true =>
  by_cases c : 0 < r.cs.length
  · have c' : (0 : Int) < r.cs.length := by omega
    have c2 := Int.not_le.2 c'
    simp [m11r3, g1, Rg.row, a', s, c, m11r4]
    exact R11_ret rfl (bad (by simp [a, s]; intro h; rw [h] at c; simp at c)).symm
  have c' : ¬ (0 : Int) < r.cs.length := by omega
  have c2 := Int.not_lt.1 c'
  have c0 : r.cs = [] := List.length_eq_zero_iff.1 (by omega)
  by_cases x : r.exp = 0
  · simp [m11r3, g1, Rg.row, a', s, c, x]
    have := hL (by simp [s, c0, x])
    unfold Rg.row at this
    rw [s, x] at this
    exact this _ rfl
  · simp [m11r3, g1, Rg.row, a', s, c, x, m11r4]
    exact R11_ret rfl (bad (by simp [s, x])).symm

theorem formed11 (r : Rg) (hl : r.cs.length ≤ 1000) (hp : r.path.length ≤ 1000) : Spec Try.prog 11 [.agg r.row] [] (.bool (formedB r)) [] := by
  refine spec_of_wp (C := CE T11) CE_ok mixed m11_ok (show 1 ≤ _ by decide) ?_
  show wpC _ _ (.seq (.region m11r0 [1]) (.seq (.block 0 (.seq (.region m11r1 [1, 6]) (.cond (.tmp 6) (.seq (.region m11r2 [2]) .ret) u3))) m11L)) _ _ _
  obtain ⟨v, hv⟩ : ∃ v, v = formedB r := ⟨_, rfl⟩
  rw [← hv]
  unfold formedB at hv
  have h7 := fun (hA : fA r = true) (hB : fB r = true) (hC : fC r = true) => st7 r hp m11L v (fun h => by rw [hv, hA, hB, hC, h]; rfl) (fun hD => loop11 r hl v (by rw [hv, hA, hB, hC, hD]; rfl))
  have h5 := fun hA hB => st5 r m11L v (fun h => by rw [hv, hA, hB, h]; rfl) (h7 hA hB)
  have h3 := fun hA => st3 r m11L v (fun h => by rw [hv, hA, h]; rfl) (h5 hA)
  refine wpC_mono (Q := Q2 v) (fun e σ H1 (h : Q2 v e σ H1) => ⟨h.1, _, rfl, h.2⟩) ?_
  clear h7 h5
  unfold R11 at h3
  generalize u3 = T at *
  generalize m11L = L at *
  simp [m11r0, envOf]
  simp +contextual [m11r1, Rg.row, t11_w, -condK_bool]
  refine condK_of (y := !fA r) (by simp [fA]) (fun h => ?_) (fun h => ?_)
  · simp [m11r2]
    exact Q2_ret rfl (by rw [hv]; simp at h; simp [h])
  · exact h3 (by simpa using h) _ rfl
end Go.Ab.Try.S

/- Formed of the document. Conditions: none. -/
namespace Go.Ab.Try.S
open Go.Proofs

def contB (r : Rg) : Bool := fB r && goodC [] r.cs
def O32 (r : Rg) (m : Nat) (σ : Env) (H : Heap) : Prop := ∃ (k : Nat) (N : Heap), m = r.cs.length - k ∧ k ≤ r.cs.length ∧ goodC [] r.cs = goodC (r.cs.take k) (r.cs.drop k) ∧
  H = .rows 0 9 [r.row] :: N ∧ σ = [(1, .ptr 0 0 0 0), (3, .int .i64 k)]
def I32 (r : Rg) (k : Nat) (c : Ct) (N : Heap) (m : Nat) (σ : Env) (H : Heap) : Prop := ∃ j : Nat, m = k - j ∧ j ≤ k ∧ freshC (r.cs.take j) c = true ∧
  H = .rows 0 9 [r.row] :: (N ++ [.rows 0 3 [c.row]]) ∧ σ = [(1, .ptr 0 0 0 0), (3, .int .i64 k), (4, .ptr (N.length + 1) 0 0 0), (5, .int .i64 j)]

def m32L : MCode := (.seq (.seq (.region m32r3 [1, 3]) (.block 0 (.loop [1, 3] m32l16))) (.seq (.region m32r17 [2]) .ret))
theorem loop32 (r : Rg) (hl : r.cs.length ≤ 1000) (v : Bool) (hv : v = goodC [] r.cs) (σ : Env) (g1 : σ.get 1 = .ptr 0 0 0 0) : wpC (CE T10) [] m32L σ [.rows 0 9 [r.row]] (Q2 v) := by
  unfold m32L
  simp [m32r3, g1]
  refine vc_loop (O32 r) r.cs.length ⟨0, [], rfl, by omega, rfl, rfl, rfl⟩ ?_
  rintro m σ H ⟨k, N, rfl, hk, hgood, rfl, rfl⟩
  by_cases hlt : k < r.cs.length
  · have hlt2 : (k : Int) < r.cs.length := by omega
    have z : FI (wrp .i64 ((k : Int) + 1)) (k + 1) := fi64 (by omega)
    rw [goodC_step hlt] at hgood
    obtain ⟨c, hck⟩ : ∃ c, c = r.cs[k] := ⟨_, rfl⟩
    rw [← hck] at hgood
    simp [m32l16, m32r4, m32r5, hlt, hlt2, iaddr_is, ← hck, Rg.row]
    have e0 : c.row[0]? = some (.str c.uri) := rfl
    have e1 : c.row[1]? = some (.int .i64 c.q) := rfl
    have e2 : c.row[2]? = some (.int .i64 c.exp) := rfl
    have ed : List.drop 3 c.row = [] := rfl
    simp +contextual [m32r6, t10_a, e0, e1, e2, -condK_bool]
    refine condK_of (y := !cB c) (by simp [cB]) (fun h => ?_) (fun h => ?_)
    · simp [m32r7]
      exact Q2_ret rfl (by rw [hv, hgood]; simp at h; simp [h])
    have hcb : cB c = true := by simpa using h
    rw [hcb, Bool.true_and] at hgood
    simp [m32r8]
    refine vc_loop (I32 r k c N) k ⟨0, rfl, by omega, rfl, rfl, rfl⟩ ?_
    rintro m σ H ⟨j, rfl, hj, hfr, rfl, rfl⟩
    by_cases hjk : j < k
    · have hjk2 : (j : Int) < k := by omega
      have hj1 : j < r.cs.length := by omega
      have hj2 : (j : Int) < r.cs.length := by omega
      have z2 : FI (wrp .i64 ((j : Int) + 1)) (j + 1) := fi64 (by omega)
      obtain ⟨a, haj⟩ : ∃ a, a = r.cs[j] := ⟨_, rfl⟩
      have f0 : a.row[0]? = some (.str a.uri) := rfl
      simp [m32l14, m32r9, m32r10, hjk2, hj1, hj2, iaddr_is, ← haj, Rg.row, e0, f0, m32r11]
      refine ⟨fun h => ?_, fun h => ?_⟩
      · simp [m32r12]
        refine Q2_ret rfl ?_
        rw [hv, hgood]
        have : freshC (r.cs.take k) c = false := by
          unfold freshC
          rw [List.all_eq_false]
          exact ⟨a, by rw [haj]; exact List.mem_take_iff_getElem.2 ⟨j, by omega, rfl⟩, by simp [h]⟩
        rw [this]; rfl
      · simp [m32r13, z2.o]
        refine ⟨_, Nat.sub_succ_lt_self _ _ hjk, j + 1, rfl, hjk, ?_, rfl, rfl⟩
        unfold freshC at hfr ⊢
        exact take_all hj1 hfr (by rw [← haj]; simp [h])
    · have hj2 : j = k := by omega
      subst hj2
      rw [hfr, Bool.true_and] at hgood
      simp [m32l14, m32r9, m32r15, z.o]
      exact ⟨_, Nat.sub_succ_lt_self _ _ hlt, j + 1, _, rfl, hlt, hgood, rfl, rfl⟩
  · have hk2 : k = r.cs.length := by omega
    rw [goodC_end hk2] at hgood
    subst hk2
    simp [m32l16, m32r4, m32r17, Rg.row]
    exact Q2_ret rfl (by rw [hv, hgood])

theorem cont32 (r : Rg) (hl : r.cs.length ≤ 1000) : Spec Try.prog 32 [.agg r.row] [] (.bool (contB r)) [] := by
  refine spec_of_wp (C := CE T10) CE_ok mixed m32_ok (show 1 ≤ _ by decide) ?_
  show wpC _ _ (.seq (.region m32r0 [1]) (.seq (.seq (.region m32r1 [1, 24]) (.cond (.tmp 24) (.seq (.region m32r2 [2]) .ret) .skip)) m32L)) _ _ _
  obtain ⟨v, hv⟩ : ∃ v, v = contB r := ⟨_, rfl⟩
  rw [← hv]
  unfold contB at hv
  have rest := fun h => loop32 r hl v (by rw [hv, show fB r = true from h, Bool.true_and])
  have bad : fB r = false → v = false := fun h => by rw [hv, h]; rfl
  refine wpC_mono (Q := Q2 v) (fun e σ H1 (h : Q2 v e σ H1) => ⟨h.1, _, rfl, h.2⟩) ?_
  generalize m32L = L at *
  unfold fB at bad rest
  simp [m32r0, envOf]
  by_cases a : 20 < r.cs.length
  · have a' : (20 : Int) < r.cs.length := by omega
    have a2 := Int.not_le.2 a'
    simp [m32r1, Rg.row, a', m32r2]
    exact Q2_ret rfl (bad (by simp [a])).symm
  have a' : ¬ (20 : Int) < r.cs.length := by omega
  have a2 := Int.not_lt.1 a'
  cases s : r.star with
  | false =>
    simp [m32r1, Rg.row, a', s]
    rw [← s]
    exact rest (by simp [a, s]) _ rfl
  | true =>
  by_cases c0 : r.cs = []
  · by_cases x : r.exp = 0
    · simp [m32r1, Rg.row, s, c0, x]
      have := rest (by simp [s, c0, x])
      unfold Rg.row at this
      rw [s, x, c0] at this
      exact this _ rfl
    · simp [m32r1, Rg.row, s, c0, x, m32r2]
      exact Q2_ret rfl (bad (by simp [s, x])).symm
  · simp [m32r1, Rg.row, a', s, c0, m32r2]
    exact Q2_ret rfl (bad (by simp [s, c0])).symm

def e32 : Entry Try.prog where
  f := 32
  α := { r : Rg // r.cs.length ≤ 1000 }
  enc r := [.agg r.1.row]
  res r := .bool (contB r.1)
  inj a b h := by
    have : a.1 = b.1 := rg_inj (by simpa using h)
    rw [this]
  ok r H := (cont32 r.1 r.2).frame (Cls.cons (cl_rg _) .nil) .bool H
def T12 : List (Entry Try.prog) := [e28, e32]
section
variable {H : Heap} {K : AV → Heap → Prop} {n a b : Int}
theorem t12_w : callK (CE T12) 28 [.int .i64 n, .int .i64 a, .int .i64 b] H K = K (.bool (wi n a b)) H := callK_E (es := T12) (e := e28) rfl (n, a, b)
theorem t12_c (r : Rg) (h : r.cs.length ≤ 1000) : callK (CE T12) 32 [.agg [.str r.aor, .str r.cid, .int .i64 r.cseq, .bool r.star, .islice (ctRows r.cs), .int .i64 r.exp, .str r.inst, .int .i64 r.flow, .islice (ptRows r.path)]] H K = K (.bool (contB r)) H := callK_E (es := T12) (e := e32) rfl ⟨r, h⟩
end
def P12 (r : Rg) (m : Nat) (σ : Env) (H : Heap) : Prop := ∃ k : Nat, m = r.path.length - k ∧ k ≤ r.path.length ∧ (r.path.take k).all pB = true ∧ H = [.rows 0 9 [r.row]] ∧ σ = [(1, .ptr 0 0 0 0), (3, .int .i64 k)]
def m12L : MCode := (.seq (.seq (.region m12r7 [1, 3]) (.block 0 (.loop [1, 3] m12l12))) (.seq (.region m12r13 [2]) .ret))
theorem loop12 (r : Rg) (hp : r.path.length ≤ 1000) (v : Bool) (hv : v = r.path.all pB) (σ : Env) (g1 : σ.get 1 = .ptr 0 0 0 0) : wpC (CE T12) [] m12L σ [.rows 0 9 [r.row]] (Q2 v) := by
  unfold m12L
  simp [m12r7, g1]
  refine vc_loop (P12 r) r.path.length ⟨0, rfl, by omega, by simp, rfl, rfl⟩ ?_
  rintro m σ H ⟨k, rfl, hk, hall, rfl, rfl⟩
  by_cases hlt : k < r.path.length
  · have hlt2 : (k : Int) < r.path.length := by omega
    have z : FI (wrp .i64 ((k : Int) + 1)) (k + 1) := fi64 (by omega)
    simp [m12l12, m12r8, m12r9, hlt, hlt2, iaddr_is, Rg.row, t12_w]
    refine ⟨fun h => ?_, fun h => ?_⟩
    · simp [m12r10]
      exact Q2_ret rfl (by rw [hv, not_all hlt (by unfold pB; exact h)])
    · simp [m12r11, z.o]
      exact ⟨_, Nat.sub_succ_lt_self _ _ hlt, k + 1, rfl, hlt, take_all hlt hall (by unfold pB; exact h), rfl, rfl⟩
  · have hk2 : k = r.path.length := by omega
    subst hk2
    rw [List.take_length] at hall
    simp [m12l12, m12r8, m12r13, Rg.row]
    exact Q2_ret rfl (by rw [hv, hall])

theorem formed12 (r : Rg) (hl : r.cs.length ≤ 1000) (hp : r.path.length ≤ 1000) : Spec Try.prog 12 [.agg r.row] [] (.bool (formedB r)) [] := by
  refine spec_of_wp (C := CE T12) CE_ok mixed m12_ok (show 1 ≤ _ by decide) ?_
  show wpC _ _ (.seq (.region m12r0 [1]) (.seq (.seq (.region m12r1 [1, 27]) (.cond (.tmp 27) (.seq (.region m12r2 [2]) .ret) .skip)) (.seq (.seq (.region m12r3 [1, 42]) (.cond (.tmp 42) (.seq (.region m12r4 [2]) .ret) .skip)) (.seq (.seq (.region m12r5 [1, 63]) (.cond (.tmp 63) (.seq (.region m12r6 [2]) .ret) .skip)) m12L)))) _ _ _
  obtain ⟨v, hv⟩ : ∃ v, v = formedB r := ⟨_, rfl⟩
  rw [← hv]
  have hv' : v = (fA r && (contB r && !decide (255 < r.inst.length) && wi r.flow 0 2147483647) && (!(!decide (r.flow = 0) && (decide (r.inst.length = 0) || decide (1 < r.cs.length))) && !decide (10 < r.path.length)) && r.path.all pB) := by
    rw [hv]
    unfold formedB contB fC fD
    cases fA r <;> cases fB r <;> cases decide (255 < r.inst.length) <;> cases wi r.flow 0 2147483647 <;> cases goodC [] r.cs <;> simp [Bool.and_assoc]
  clear hv
  have rest := fun h1 h2 h3 => loop12 r hp v (by rw [hv', show fA r = true from h1, show (contB r && !decide (255 < r.inst.length) && wi r.flow 0 2147483647) = true from h2, show (!(!decide (r.flow = 0) && (decide (r.inst.length = 0) || decide (1 < r.cs.length))) && !decide (10 < r.path.length)) = true from h3]; rfl)
  refine wpC_mono (Q := Q2 v) (fun e σ H1 (h : Q2 v e σ H1) => ⟨h.1, _, rfl, h.2⟩) ?_
  generalize m12L = L at *
  simp [m12r0, envOf]
  simp +contextual [m12r1, Rg.row, t12_w, -condK_bool]
  refine condK_of (y := !fA r) (by simp [fA]) (fun h => ?_) (fun h1 => ?_)
  · simp [m12r2]
    exact Q2_ret rfl (by rw [hv']; simp at h; simp [h])
  have h1 : fA r = true := by simpa using h1
  simp +contextual [m12r3, t12_c r hl, t12_w, -condK_bool]
  refine condK_of (y := !(contB r && !decide (255 < r.inst.length) && wi r.flow 0 2147483647)) (by rw [show decide ((255 : Int) < (r.inst.length : Nat)) = decide (255 < r.inst.length) by rw [decide_eq_decide]; omega]; simp) (fun h => ?_) (fun h2 => ?_)
  · simp [m12r4]
    exact Q2_ret rfl (by rw [hv']; rw [Bool.not_eq_true'] at h; rw [h]; simp)
  have h2 : (contB r && !decide (255 < r.inst.length) && wi r.flow 0 2147483647) = true := by simpa using h2
  have key : ∀ b : Bool, b = (!decide (r.flow = 0) && (decide (r.inst.length = 0) || decide (1 < r.cs.length)) || decide (10 < r.path.length)) → ∀ A B : Prop, (v = false → A) → ((!(!decide (r.flow = 0) && (decide (r.inst.length = 0) || decide (1 < r.cs.length))) && !decide (10 < r.path.length)) = true → B) → condK (.bool b) A B := by
    intro b hb A B ha hB
    refine condK_of hb (fun h => ha ?_) (fun h => hB ?_)
    · rw [hv', h1, h2]
      have : (!(!decide (r.flow = 0) && (decide (r.inst.length = 0) || decide (1 < r.cs.length))) && !decide (10 < r.path.length)) = false := by
        rw [← Bool.not_or, h]; rfl
      rw [this]; rfl
    · rw [← Bool.not_or, h]; rfl
  by_cases f0 : r.flow = 0
  · simp +contextual [m12r5, f0, -condK_bool]
    refine key _ (by rw [decide_eq_true f0]; simp; omega) _ _ (fun h => ?_) (fun h3 => ?_)
    · simp [m12r6]
      exact Q2_ret rfl h.symm
    · have := rest h1 h2 h3
      unfold Rg.row at this
      rw [f0] at this
      exact this _ rfl
  by_cases i0 : r.inst = []
  · simp +contextual [m12r5, f0, i0, -condK_bool, -condK_t, -condK_f]
    refine key _ (by simp [f0, i0]) _ _ (fun h => ?_) (fun h3 => ?_)
    · simp [m12r6]
      exact Q2_ret rfl h.symm
    · simp [f0, i0] at h3
  · simp +contextual [m12r5, f0, i0, -condK_bool]
    refine key _ (by rw [decide_eq_false f0]; simp [i0]; rw [Bool.eq_iff_iff]; simp; omega) _ _ (fun h => ?_) (fun h3 => ?_)
    · simp [m12r6]
      exact Q2_ret rfl h.symm
    · exact rest h1 h2 h3 _ rfl
end Go.Ab.Try.S
