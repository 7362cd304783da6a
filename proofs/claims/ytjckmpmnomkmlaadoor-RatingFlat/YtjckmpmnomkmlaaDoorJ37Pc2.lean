/- Whether a tariff is valid. Conditions: none. -/
import Derived.Test.YtjckmpmnomkmlaaDoorJ37Rate2
import Derived.Test.YtjckmpmnomkmlaaDoorAbKeys
namespace Go.Ab.Tryd.S
open Go.Proofs

/-- The bounds of a statement. -/
structure Sm (t : Tf) : Prop where
  n : t.rs.length ≤ 1100
  r : ∀ r ∈ t.rs, r.pre.length ≤ 100 ∧ r.ps.length ≤ 1000

def e35 : Entry Tryd.prog where
  f := 35
  α := { r : Rt // r.pre.length ≤ 100 ∧ r.ps.length ≤ 1000 }
  enc r := [.agg r.1.row]
  res r := .bool (rateB r.1)
  inj a b h := by
    have : a.1 = b.1 := rt_inj (by simpa using h)
    rw [this]
  ok r H := (rated35 r.1 r.2.1 r.2.2).frame (Cls.cons (cl_rt _) .nil) .bool H
def e32 : Entry Tryd.prog where
  f := 32
  α := { r : Rt // r.pre.length ≤ 100 ∧ r.ps.length ≤ 1000 }
  enc r := [.agg r.1.row]
  res r := .bool (rateB r.1)
  inj a b h := by
    have : a.1 = b.1 := rt_inj (by simpa using h)
    rw [this]
  ok r H := (rate32 r.1 r.2.1 r.2.2).frame (Cls.cons (cl_rt _) .nil) .bool H
def T24 : List (Entry Tryd.prog) := [e35, e32]
theorem t24_a {H : Heap} {K : AV → Heap → Prop} {r : Rt} (h : r.pre.length ≤ 100 ∧ r.ps.length ≤ 1000) : callK (CE T24) 35 [.agg [.str r.pre, .int .i64 r.con, .int .i64 r.fi, .int .i64 r.st, .islice (prRows r.ps)]] H K = K (.bool (rateB r)) H :=
  callK_E (es := T24) (e := e35) rfl ⟨r, h⟩
theorem t24_b {H : Heap} {K : AV → Heap → Prop} {r : Rt} (h : r.pre.length ≤ 100 ∧ r.ps.length ≤ 1000) : callK (CE T24) 32 [.agg [.str r.pre, .int .i64 r.con, .int .i64 r.fi, .int .i64 r.st, .islice (prRows r.ps)]] H K = K (.bool (rateB r)) H :=
  callK_E (es := T24) (e := e32) rfl ⟨r, h⟩

def v1B (t : Tf) : Bool := decide (1000 < t.rs.length) || decide (t.free < 0) || decide (3600 < t.free)
theorem validB_eq (t : Tf) : validB t = (!v1B t && goodB [] t.rs) := by
  unfold validB v1B
  congr 1
  rw [Bool.eq_iff_iff]
  simp
theorem fresh_mem (l : List Rt) (r : Rt) : freshB l r = !decide (r.pre ∈ l.map Rt.pre) := by
  rw [Bool.eq_iff_iff]
  simp [freshB]
theorem goodB_step {l : List Rt} {k : Nat} (h : k < l.length) : goodB (l.take k) (l.drop k) = (rateB l[k] && (freshB (l.take k) l[k] && goodB (l.take (k + 1)) (l.drop (k + 1)))) := by
  rw [List.drop_eq_getElem_cons h, goodB, ← List.take_succ_eq_append_getElem h]
theorem goodB_end {l : List Rt} {k : Nat} (h : k = l.length) : goodB (l.take k) (l.drop k) = true := by
  rw [List.drop_eq_nil_of_le (by omega)]; rfl

def V24 (t : Tf) (m : Nat) (σ : Env) (H : Heap) : Prop := ∃ (k : Nat) (es : List (AV × AV × Nat)) (cl : Nat) (N : Heap), m = t.rs.length - k ∧ k ≤ t.rs.length ∧ goodB [] t.rs = goodB (t.rs.take k) (t.rs.drop k) ∧ KeysOf es ((t.rs.take k).map Rt.pre) ∧
  H = .rows 0 2 [t.row] :: .map es cl :: N ∧ σ = [(3, .map 1), (22, .islice (rtRows t.rs)), (23, .int .i64 (t.rs.length : Nat)), (24, .int .i64 k)]

theorem valid24 (t : Tf) (hs : Sm t) : Spec Tryd.prog 24 [.agg t.row] [] (.bool (validB t)) [] := by
  refine spec_of_wp (C := CE T24) CE_ok mixed m24_ok (show 1 ≤ _ by decide) ?_
  unfold m24
  have hn := hs.n
  have fin : ∀ {x : Bool} {H : Heap}, x = validB t → Fin [] (.bool x) H (.bool (validB t)) [] := fun h => fin_bool h
  rw [validB_eq] at fin ⊢
  obtain ⟨v, hv⟩ : ∃ v, v = (!v1B t && goodB [] t.rs) := ⟨_, rfl⟩
  rw [← hv] at fin ⊢
  simp [m24r0, envOf, Tf.row]
  simp +contextual [m24r1, -condK_bool]
  refine condK_of (y := v1B t) ?_ (fun h => ?_) (fun h1 => ?_)
  · unfold v1B
    rw [Bool.eq_iff_iff]
    simp
    omega
  · simp [m24r2]
    exact fin (by rw [hv, h]; rfl)
  rw [h1, Bool.not_false, Bool.true_and] at hv
  simp [m24r3, m24r4]
  refine vc_loop (V24 t) t.rs.length ⟨0, [], 0, [], rfl, by omega, rfl, by simp [KeysOf], rfl, rfl⟩ ?_
  rintro m σ H ⟨k, es, cl, N, rfl, hk, hgood, hkeys, rfl, rfl⟩
  by_cases hlt : k < t.rs.length
  · have hlt2 : (k : Int) < t.rs.length := by omega
    have z : FI (wrp .i64 ((k : Int) + 1)) (k + 1) := fi64 (by omega)
    rw [goodB_step hlt] at hgood
    have hsr := hs.r _ (List.getElem_mem hlt)
    obtain ⟨r, hrk⟩ : ∃ r, r = t.rs[k] := ⟨_, rfl⟩
    rw [← hrk] at hgood hsr
    simp [m24l11, m24r5, m24r6, hlt, hlt2, Nat.not_le.2 hlt, iaddr_is, ← hrk, Rt.row]
    obtain ⟨us, hus⟩ : ∃ us, us = (t.rs.take k).map Rt.pre := ⟨_, rfl⟩
    rw [fresh_mem, ← hus] at hgood
    rw [← hus] at hkeys
    have hlook : ∀ x N', lookAV (x :: .map es cl :: N') 2 (.bool false) false (.map 1) (.str r.pre) = some (.bool (decide (r.pre ∈ us))) := fun x N' => look_keys (H := x :: .map es cl :: N') rfl hkeys
    simp +contextual [m24r7, Tf.row, t24_a hsr, hlook, -condK_bool]
    refine condK_of (y := !rateB r || decide (r.pre ∈ us)) (by simp) (fun h => ?_) (fun h => ?_)
    · simp [m24r8]
      refine fin ?_
      rw [hv, hgood]
      simp only [Bool.or_eq_true, Bool.not_eq_true'] at h
      rcases h with h | h
      · rw [h]; rfl
      · rw [h]; simp
    simp only [Bool.or_eq_false_iff, Bool.not_eq_false', decide_eq_false_iff_not] at h
    obtain ⟨hfit, hnew⟩ := h
    have hmu := fun x N' => (mupd_keys (H := x :: .map es cl :: N') (r := 1) rfl hkeys hnew).1
    have hkeys' := (mupd_keys (H := [.gone, .map es cl]) (r := 1) rfl hkeys hnew).2
    have hus' : us ++ [r.pre] = (t.rs.take (k + 1)).map Rt.pre := by
      rw [List.take_succ_eq_append_getElem hlt, List.map_append, ← hus, hrk]; rfl
    rw [hus'] at hkeys'
    rw [hfit, decide_eq_false hnew] at hgood
    simp only [Bool.not_false, Bool.true_and] at hgood
    simp [m24r9, hmu, m24r10, z.o]
    exact ⟨_, Nat.sub_succ_lt_self _ _ hlt, k + 1, _, _, _, rfl, hlt, hgood, hkeys', rfl, rfl⟩
  · have hk2 : k = t.rs.length := by omega
    rw [goodB_end hk2] at hgood
    subst hk2
    simp [m24l11, m24r5, m24r12]
    exact fin (by rw [hv, hgood])

def V14 (t : Tf) (m : Nat) (σ : Env) (H : Heap) : Prop := ∃ k : Nat, m = t.rs.length - k ∧ k ≤ t.rs.length ∧ goodB [] t.rs = goodB (t.rs.take k) (t.rs.drop k) ∧
  H = [.rows 0 2 [t.row]] ∧ σ = [(1, .ptr 0 0 0 0), (3, .int .i64 k)]
def V14i (t : Tf) (k : Nat) (r : Rt) (m : Nat) (σ : Env) (H : Heap) : Prop := ∃ j : Nat, m = k - j ∧ j ≤ k ∧ freshB (t.rs.take j) r = true ∧
  H = [.rows 0 2 [t.row]] ∧ σ = [(1, .ptr 0 0 0 0), (3, .int .i64 k), (4, .int .i64 j)]

theorem valid14 (t : Tf) (hs : Sm t) : Spec Tryd.prog 14 [.agg t.row] [] (.bool (validB t)) [] := by
  refine spec_of_wp (C := CE T24) CE_ok mixed m14_ok (show 1 ≤ _ by decide) ?_
  unfold m14
  have hn := hs.n
  have fin : ∀ {x : Bool} {H : Heap}, x = validB t → Fin [] (.bool x) H (.bool (validB t)) [] := fun h => fin_bool h
  rw [validB_eq] at fin ⊢
  obtain ⟨v, hv⟩ : ∃ v, v = (!v1B t && goodB [] t.rs) := ⟨_, rfl⟩
  rw [← hv] at fin ⊢
  simp [m14r0, envOf, Tf.row]
  simp +contextual [m14r1, -condK_bool]
  refine condK_of (y := v1B t) ?_ (fun h => ?_) (fun h1 => ?_)
  · unfold v1B
    rw [Bool.eq_iff_iff]
    simp
    omega
  · simp [m14r2]
    exact fin (by rw [hv, h]; rfl)
  rw [h1, Bool.not_false, Bool.true_and] at hv
  simp [m14r3]
  refine vc_loop (V14 t) t.rs.length ⟨0, rfl, by omega, rfl, rfl, rfl⟩ ?_
  rintro m σ H ⟨k, rfl, hk, hgood, rfl, rfl⟩
  by_cases hlt : k < t.rs.length
  · have hlt2 : (k : Int) < t.rs.length := by omega
    have z : FI (wrp .i64 ((k : Int) + 1)) (k + 1) := fi64 (by omega)
    rw [goodB_step hlt] at hgood
    have hsr := hs.r _ (List.getElem_mem hlt)
    obtain ⟨r, hrk⟩ : ∃ r, r = t.rs[k] := ⟨_, rfl⟩
    rw [← hrk] at hgood hsr
    simp [m14l15, m14r4, m14r5, hlt, hlt2, Nat.not_le.2 hlt, iaddr_is, ← hrk, Tf.row]
    rw [show r.row = [.str r.pre, .int .i64 r.con, .int .i64 r.fi, .int .i64 r.st, .islice (prRows r.ps)] from rfl, t24_b hsr]
    simp
    refine ⟨fun h => ?_, fun h => ?_⟩
    · simp [m14r6]
      exact fin (by rw [hv, hgood, h]; rfl)
    rw [h, Bool.true_and] at hgood
    simp [m14r7]
    refine vc_loop (V14i t k r) k ⟨0, rfl, by omega, rfl, rfl, rfl⟩ ?_
    rintro m σ H ⟨j, rfl, hj, hfr, rfl, rfl⟩
    by_cases hjk : j < k
    · have hjk2 : (j : Int) < k := by omega
      have hj1 : j < t.rs.length := by omega
      have hj2 : (j : Int) < t.rs.length := by omega
      have z2 : FI (wrp .i64 ((j : Int) + 1)) (j + 1) := fi64 (by omega)
      obtain ⟨a, haj⟩ : ∃ a, a = t.rs[j] := ⟨_, rfl⟩
      simp [m14l13, m14r8, m14r9, hjk, hjk2, Nat.not_le.2 hjk, hj1, hj2, hlt, hlt2, iaddr_is, ← hrk, ← haj, Tf.row, Rt.row, m14r10]
      refine ⟨fun h => ?_, fun h => ?_⟩
      · simp [m14r11]
        refine fin ?_
        rw [hv, hgood]
        have : freshB (t.rs.take k) r = false := by
          unfold freshB
          rw [List.all_eq_false]
          exact ⟨a, by rw [haj]; exact List.mem_take_iff_getElem.2 ⟨j, by omega, rfl⟩, by simp [h]⟩
        rw [this]; rfl
      · simp [m14r12, z2.o]
        refine ⟨_, Nat.sub_succ_lt_self _ _ hjk, j + 1, rfl, hjk, ?_, rfl, rfl⟩
        unfold freshB at hfr ⊢
        exact take_all hj1 hfr (by rw [← haj]; simp [h])
    · have hj2 : j = k := by omega
      subst hj2
      rw [hfr, Bool.true_and] at hgood
      simp [m14l13, m14r8, m14r14, z.o]
      exact ⟨_, Nat.sub_succ_lt_self _ _ hlt, j + 1, rfl, hlt, hgood, rfl, rfl⟩
  · have hk2 : k = t.rs.length := by omega
    rw [goodB_end hk2] at hgood
    subst hk2
    simp [m14l15, m14r4, m14r16, Tf.row]
    exact fin (by rw [hv, hgood])
end Go.Ab.Tryd.S

/- The rate with the longest prefix. Conditions: none. -/
namespace Go.Ab.Tryd.S
open Go.Proofs

def preL (l : List Rt) (i : Nat) : Nat := match l[i]? with | some r => r.pre.length | none => 0
def hitB (num : List UInt8) (l : List Rt) (i : Nat) : Bool := match l[i]? with | some r => hasB num r.pre | none => false
def upd (num : List UInt8) (l : List Rt) (i : Nat) (best : Int) : Int := if (hitB num l i && (decide (best < 0) || decide (preL l best.toNat < preL l i))) = true then i else best
def findP (num : List UInt8) (l : List Rt) : Nat → Int
  | 0 => -1
  | k + 1 => upd num l k (findP num l k)
def findF (num : List UInt8) (l : List Rt) : Int := findP num l l.length

/-- The first of the longest among the first k. -/
def Best (num : List UInt8) (l : List Rt) (k : Nat) (b : Int) : Prop := (b = -1 ∧ ∀ j, j < k → hitB num l j = false) ∨
  ∃ i : Nat, b = i ∧ i < k ∧ hitB num l i = true ∧ (∀ j, j < k → hitB num l j = true → preL l j ≤ preL l i) ∧ ∀ j, j < i → hitB num l j = true → preL l j < preL l i
theorem findP_best (num : List UInt8) (l : List Rt) : ∀ k, Best num l k (findP num l k)
  | 0 => .inl ⟨rfl, fun j h => absurd h (Nat.not_lt_zero _)⟩
  | k + 1 => by
    have ih := findP_best num l k
    unfold findP upd
    generalize findP num l k = b at *
    cases hk : hitB num l k with
    | false =>
      simp only [Bool.false_and, Bool.false_eq_true, if_false]
      rcases ih with ⟨h1, h2⟩ | ⟨i, h1, h2, h3, h4, h5⟩
      · refine .inl ⟨h1, fun j hj => ?_⟩
        by_cases e : j = k
        · rw [e]; exact hk
        · exact h2 j (by omega)
      · refine .inr ⟨i, h1, by omega, h3, fun j hj hh => ?_, h5⟩
        by_cases e : j = k
        · rw [e, hk] at hh; cases hh
        · exact h4 j (by omega) hh
    | true =>
      rw [Bool.true_and]
      rcases ih with ⟨h1, h2⟩ | ⟨i, h1, h2, h3, h4, h5⟩
      · rw [if_pos (by simp [h1])]
        refine .inr ⟨k, rfl, by omega, hk, fun j hj hh => ?_, fun j hj hh => ?_⟩
        · by_cases e : j = k
          · rw [e]; exact Nat.le_refl _
          · rw [h2 j (by omega)] at hh; cases hh
        · rw [h2 j hj] at hh; cases hh
      · have e0 : b.toNat = i := by omega
        rw [e0]
        by_cases hlt : preL l i < preL l k
        · rw [if_pos (by simp [hlt])]
          refine .inr ⟨k, rfl, by omega, hk, fun j hj hh => ?_, fun j hj hh => ?_⟩
          · by_cases e : j = k
            · rw [e]; exact Nat.le_refl _
            · have := h4 j (by omega) hh; omega
          · have := h4 j hj hh; omega
        · rw [if_neg (by simp [hlt]; omega)]
          refine .inr ⟨i, h1, by omega, h3, fun j hj hh => ?_, h5⟩
          by_cases e : j = k
          · rw [e]; omega
          · exact h4 j (by omega) hh
theorem Best.uniq {num : List UInt8} {l : List Rt} {k : Nat} {a b : Int} (ha : Best num l k a) (hb : Best num l k b) : a = b := by
  rcases ha with ⟨h1, h2⟩ | ⟨i, h1, h2, h3, h4, h5⟩ <;> rcases hb with ⟨g1, g2⟩ | ⟨j, g1, g2, g3, g4, g5⟩
  · omega
  · rw [h2 j g2] at g3; cases g3
  · rw [g2 i h2] at h3; cases h3
  · have a1 := h4 j g2 g3
    have a2 := g4 i h2 h3
    have : ¬ i < j := fun h => by have := g5 i h h3; omega
    have : ¬ j < i := fun h => by have := h5 j h g3; omega
    omega

def F26 (t : Tf) (num : List UInt8) (m : Nat) (σ : Env) (H : Heap) : Prop := ∃ (k : Nat) (N : Heap), m = t.rs.length - k ∧ k ≤ t.rs.length ∧ H = .rows 0 2 [t.row] :: N ∧
  σ = [(1, .str num), (2, .ptr 0 0 0 0), (5, .int .i64 (findP num t.rs k)), (9, .islice (rtRows t.rs)), (10, .int .i64 (t.rs.length : Nat)), (11, .int .i64 k)]

def e36 : Entry Tryd.prog where
  f := 36
  α := List UInt8 × List UInt8
  enc p := [.str p.1, .str p.2]
  res p := .bool (hasB p.1 p.2)
  inj a b h := by
    simp only [List.cons.injEq, AV.str.injEq, and_true] at h
    rw [h.1, h.2]
  ok p H := (has36 p.1 p.2).frame (Cls.cons .str (Cls.cons .str .nil)) .bool H
def e33 : Entry Tryd.prog where
  f := 33
  α := List UInt8 × List UInt8
  enc p := [.str p.1, .str p.2]
  res p := .bool (hasB p.1 p.2)
  inj a b h := by
    simp only [List.cons.injEq, AV.str.injEq, and_true] at h
    rw [h.1, h.2]
  ok p H := (has33 p.1 p.2).frame (Cls.cons .str (Cls.cons .str .nil)) .bool H
def e14 : Entry Tryd.prog where
  f := 14
  α := { t : Tf // Sm t }
  enc t := [.agg t.1.row]
  res t := .bool (validB t.1)
  inj a b h := by
    have : a.1 = b.1 := tf_inj (by simpa using h)
    rw [this]
  ok t H := (valid14 t.1 t.2).frame (Cls.cons (cl_tf _) .nil) .bool H
def T26 : List (Entry Tryd.prog) := [e36, e33, e14]
section
variable {H : Heap} {K : AV → Heap → Prop} {a b : List UInt8}
theorem t26_a : callK (CE T26) 36 [.str a, .str b] H K = K (.bool (hasB a b)) H := callK_E (es := T26) (e := e36) rfl (a, b)
theorem t26_b : callK (CE T26) 33 [.str a, .str b] H K = K (.bool (hasB a b)) H := callK_E (es := T26) (e := e33) rfl (a, b)
theorem t26_v {t : Tf} (h : Sm t) : callK (CE T26) 14 [.agg [.islice (rtRows t.rs), .int .i64 t.free]] H K = K (.bool (validB t)) H := callK_E (es := T26) (e := e14) rfl ⟨t, h⟩
end

theorem find26 (t : Tf) (hs : Sm t) (num : List UInt8) : Spec Tryd.prog 26 [.agg t.row, .str num] [] (.int .i64 (findF num t.rs)) [] := by
  refine spec_of_wp (C := CE T26) CE_ok mixed m26_ok (show 2 ≤ _ by decide) ?_
  unfold m26
  have hn := hs.n
  simp [m26r0, m26r1, m26r2, envOf, Tf.row]
  refine vc_loop (F26 t num) t.rs.length ⟨0, [], rfl, by omega, rfl, rfl⟩ ?_
  rintro m σ H ⟨k, N, rfl, hk, rfl, rfl⟩
  by_cases hlt : k < t.rs.length
  · have hlt2 : (k : Int) < t.rs.length := by omega
    have z : FI (wrp .i64 ((k : Int) + 1)) (k + 1) := fi64 (by omega)
    obtain ⟨r, hrk⟩ : ∃ r, r = t.rs[k] := ⟨_, rfl⟩
    have hge : t.rs[k]? = some r := by rw [List.getElem?_eq_getElem hlt, hrk]
    have hpk : preL t.rs k = r.pre.length := by simp only [preL, hge]
    have hhk : hitB num t.rs k = hasB num r.pre := by simp only [hitB, hge]
    have hbest := findP_best num t.rs k
    have hup : findP num t.rs (k + 1) = upd num t.rs k (findP num t.rs k) := rfl
    generalize findP num t.rs k = best at *
    unfold upd at hup
    rw [hhk, hpk] at hup
    have next : ∀ (b' : Int) N', b' = findP num t.rs (k + 1) → ∃ m, m < t.rs.length - k ∧ F26 t num m [(1, .str num), (2, .ptr 0 0 0 0), (5, .int .i64 b'), (9, .islice (rtRows t.rs)), (10, .int .i64 (t.rs.length : Nat)), (11, .int .i64 ((k : Int) + 1))] (.rows 0 2 [t.row] :: N') :=
      fun b' N' e => ⟨_, Nat.sub_succ_lt_self _ _ hlt, k + 1, N', rfl, hlt, rfl, by rw [e]; rfl⟩
    simp [m26l9, m26r3, m26r4, hlt, hlt2, Nat.not_le.2 hlt, iaddr_is, ← hrk, Rt.row]
    rcases hbest with ⟨rfl, _⟩ | ⟨i, rfl, h2, _⟩
    · cases hh : hasB num r.pre with
      | true =>
        simp [m26r5, m26r6, t26_a, hh, m26r7, m26r8, z.o]
        exact next _ _ (by rw [hup, hh]; simp)
      | false =>
        simp [m26r5, m26r6, t26_a, hh, m26r8, z.o]
        exact next _ _ (by rw [hup, hh]; simp)
    · have i1 : i < t.rs.length := by omega
      have i2 : (i : Int) < t.rs.length := by omega
      have i3 : ¬ (i : Int) < 0 := by omega
      obtain ⟨a, hai⟩ : ∃ a, a = t.rs[i] := ⟨_, rfl⟩
      have hpi : preL t.rs i = a.pre.length := by simp only [preL, List.getElem?_eq_getElem i1, ← hai]
      rw [Int.toNat_natCast, hpi] at hup
      have i4 : decide ((i : Int) < 0) = false := decide_eq_false i3
      cases hh : hasB num r.pre with
      | true =>
        simp [m26r5, m26r6, t26_a, hh, i1, i2, i3, i4, iaddr_is, ← hai, Rt.row, Tf.row]
        refine ⟨fun h => ?_, fun h => ?_⟩
        · simp [m26r7, m26r8, z.o]
          exact next _ _ (by rw [hup, i4, Bool.false_or, hh]; simp [h])
        · simp [m26r8, z.o]
          exact next _ _ (by rw [hup, i4, Bool.false_or, hh]; simp; omega)
      | false =>
        simp [m26r5, m26r6, t26_a, hh, m26r8, z.o]
        exact next _ _ (by rw [hup, hh]; simp)
  · have hk2 : k = t.rs.length := by omega
    subst hk2
    simp [m26l9, m26r3, m26r10]
    exact fin_int rfl
end Go.Ab.Tryd.S

/- Find, by the program and by the document. Conditions: none. -/
namespace Go.Ab.Tryd.S
open Go.Proofs

theorem goodB_all : ∀ {d l : List Rt}, goodB d l = true → ∀ r ∈ l, rateB r = true
  | d, [], h, r, hr => by simp at hr
  | d, x :: l, h, r, hr => by
    rw [goodB] at h
    simp only [Bool.and_eq_true] at h
    rcases List.mem_cons.1 hr with rfl | hr
    · exact h.1
    · exact goodB_all h.2.2 r hr
theorem valid_rate {t : Tf} (h : validB t = true) : ∀ r ∈ t.rs, rateB r = true := by
  unfold validB at h
  simp only [Bool.and_eq_true] at h
  exact goodB_all h.2
theorem rate_pre {r : Rt} (h : rateB r = true) : r.pre.length ≤ 20 := by
  unfold rateB at h
  simp only [Bool.and_eq_true, decide_eq_true_eq] at h
  exact h.1.1.1.1.1.1
def findR (t : Tf) (num : List UInt8) : AV := if validB t = true then .tup [.int .i64 (max (findF num t.rs) 0), .bool (decide (0 ≤ findF num t.rs))] else .tup [.int .i64 0, .bool false]

def F15 (t : Tf) (num : List UInt8) (m : Nat) (σ : Env) (H : Heap) : Prop := ∃ n : Int, m = (n + 1).toNat ∧ -1 ≤ n ∧ n ≤ 20 ∧ (∀ j, hitB num t.rs j = true → (preL t.rs j : Int) ≤ n) ∧ H = [.rows 0 2 [t.row]] ∧
  σ = [(1, .str num), (2, .ptr 0 0 0 0), (6, .int .i64 n)]
def F15i (t : Tf) (num : List UInt8) (n : Int) (m : Nat) (σ : Env) (H : Heap) : Prop := ∃ k : Nat, m = t.rs.length - k ∧ k ≤ t.rs.length ∧ (∀ j, j < k → hitB num t.rs j = true → (preL t.rs j : Int) < n) ∧ H = [.rows 0 2 [t.row]] ∧
  σ = [(1, .str num), (2, .ptr 0 0 0 0), (6, .int .i64 n), (7, .int .i64 k)]

theorem fin_tup2 {H : Heap} {k : IntKind} {x y : Int} {a b : Bool} (h : x = y) (h2 : a = b) : Fin [] (.tup [.int k x, .bool a]) H (.tup [.int k y, .bool b]) [] := by
  subst h h2
  exact fin_drop (.refl (Cls.cons .int (Cls.cons .bool .nil)).tup)
theorem hit_lt {num : List UInt8} {l : List Rt} {j : Nat} (h : hitB num l j = true) : j < l.length := by
  unfold hitB at h
  split at h
  · rename_i r hr; exact (List.getElem?_eq_some_iff.1 hr).1
  · cases h
theorem pre_le {t : Tf} (hv : validB t = true) (j : Nat) : preL t.rs j ≤ 20 := by
  unfold preL
  split
  · rename_i r hr; exact rate_pre (valid_rate hv r (List.mem_of_getElem? hr))
  · omega

theorem find15 (t : Tf) (hs : Sm t) (num : List UInt8) : Spec Tryd.prog 15 [.agg t.row, .str num] [] (findR t num) [] := by
  refine spec_of_wp (C := CE T26) CE_ok mixed m15_ok (show 2 ≤ _ by decide) ?_
  unfold m15
  have hn := hs.n
  simp [m15r0, m15r1, envOf, Tf.row, t26_v hs]
  refine ⟨fun hv => ?_, fun hv => ?_⟩
  · simp [m15r2]
    rw [findR, if_neg (by simp [hv])]
    exact fin_tup2 rfl rfl
  rw [findR, if_pos hv]
  simp [m15r3]
  refine vc_loop (F15 t num) 21 ⟨20, rfl, by omega, by omega, fun j _ => by have := pre_le hv j; omega, rfl, rfl⟩ ?_
  rintro m σ H ⟨n, rfl, hn1, hn2, hmax, rfl, rfl⟩
  by_cases h0 : 0 ≤ n
  · have z : FI (wrp .i64 (n - 1)) (n - 1) := fi64 (by omega)
    simp [m15l12, m15r4, h0, Int.not_lt.2 h0, m15r5]
    refine vc_loop (F15i t num n) t.rs.length ⟨0, rfl, by omega, fun j h => absurd h (Nat.not_lt_zero _), rfl, rfl⟩ ?_
    rintro m σ H ⟨k, rfl, hk, hall, rfl, rfl⟩
    by_cases hlt : k < t.rs.length
    · have hlt2 : (k : Int) < t.rs.length := by omega
      have z2 : FI (wrp .i64 ((k : Int) + 1)) (k + 1) := fi64 (by omega)
      obtain ⟨r, hrk⟩ : ∃ r, r = t.rs[k] := ⟨_, rfl⟩
      have hge : t.rs[k]? = some r := by rw [List.getElem?_eq_getElem hlt, hrk]
      have hpk : preL t.rs k = r.pre.length := by simp only [preL, hge]
      have hhk : hitB num t.rs k = hasB num r.pre := by simp only [hitB, hge]
      have next : hitB num t.rs k = false ∨ ¬ (preL t.rs k : Int) = n → ∃ m, m < t.rs.length - k ∧ F15i t num n m [(1, .str num), (2, .ptr 0 0 0 0), (6, .int .i64 n), (7, .int .i64 ((k : Int) + 1))] [.rows 0 2 [t.row]] := by
        intro hno
        refine ⟨_, Nat.sub_succ_lt_self _ _ hlt, k + 1, rfl, hlt, fun j hj hh => ?_, rfl, rfl⟩
        by_cases e : j = k
        · subst e
          rcases hno with h | h
          · rw [h] at hh; cases hh
          · have := hmax j hh; omega
        · exact hall j (by omega) hh
      simp [m15l10, m15r6, hlt, hlt2, Nat.not_le.2 hlt, Tf.row]
      by_cases hln : (r.pre.length : Int) = n
      · cases hh : hasB num r.pre with
        | true =>
          simp [m15r7, hlt, hlt2, iaddr_is, ← hrk, Rt.row, hln, t26_b, hh, m15r8]
          have hb : Best num t.rs t.rs.length (k : Int) := .inr ⟨k, rfl, hlt, by rw [hhk, hh], fun j hj hjh => by have := hmax j hjh; omega, fun j hj hjh => by have := hall j hj hjh; omega⟩
          have := hb.uniq (findP_best num t.rs t.rs.length)
          exact fin_tup2 (by unfold findF; rw [← this]; omega) (by unfold findF; rw [← this]; simp)
        | false =>
          simp [m15r7, hlt, hlt2, iaddr_is, ← hrk, Rt.row, hln, t26_b, hh, m15r9, z2.o]
          exact next (.inl (by rw [hhk, hh]))
      · simp [m15r7, hlt, hlt2, iaddr_is, ← hrk, Rt.row, hln, m15r9, z2.o]
        exact next (.inr (by rw [hpk]; exact hln))
    · have hk2 : k = t.rs.length := by omega
      subst hk2
      simp [m15l10, m15r6, Tf.row, m15r11, z.o]
      exact ⟨(n - 1 + 1).toNat, by omega, n - 1, rfl, by omega, by omega, fun j hj => by have := hall j (hit_lt hj) hj; omega, rfl, rfl⟩
  · have hn0 : n = -1 := by omega
    subst hn0
    simp [m15l12, m15r4, m15r13]
    have hb : Best num t.rs t.rs.length (-1) := .inl ⟨rfl, fun j hj => by
      cases hh : hitB num t.rs j with
      | false => rfl
      | true => have := hmax j hh; omega⟩
    have := hb.uniq (findP_best num t.rs t.rs.length)
    exact fin_tup2 (by unfold findF; rw [← this]; omega) (by unfold findF; rw [← this]; decide)

theorem find23 (t : Tf) (hs : Sm t) (num : List UInt8) : Spec Tryd.prog 23 [.agg t.row, .str num] [] (findR t num) [] := by
  refine spec_of_wp (C := Spec Tryd.prog) (fun _ _ _ _ _ h => h) mixed m23_ok (show 2 ≤ _ by decide) ?_
  unfold m23
  simp [m23r0, m23r1, envOf]
  refine vc_call ((valid24 t hs).frame (Cls.cons (cl_tf _) .nil) .bool _) ?_
  simp
  refine ⟨fun hv => ?_, fun hv => ?_⟩
  · simp [m23r2]
    rw [findR, if_neg (by simp [hv])]
    exact fin_tup2 rfl rfl
  rw [findR, if_pos hv]
  simp [m23r3]
  refine vc_call ((find26 t hs num).frame (Cls.cons (cl_tf _) (Cls.cons .str .nil)) .int _) ?_
  simp [m23r4]
  exact fin_tup2 rfl rfl
end Go.Ab.Tryd.S

/- PriceAt and Pieces, by the program and by the document. Conditions: none. -/
namespace Go.Ab.Tryd.S
open Go.Proofs

theorem rate_parts {r : Rt} (h : rateB r = true) : (0 ≤ r.con ∧ r.con ≤ 1000000000) ∧ (1 ≤ r.fi ∧ r.fi ≤ 3600) ∧ (1 ≤ r.st ∧ r.st ≤ 3600) ∧ (1 ≤ r.ps.length ∧ r.ps.length ≤ 20) ∧ (∀ p ∈ r.ps, priceB p = true) ∧ lastB r.ps = true := by
  unfold rateB at h
  simp only [Bool.and_eq_true, List.all_eq_true] at h
  obtain ⟨⟨⟨⟨⟨⟨_, _⟩, h3⟩, h4⟩, h5⟩, h6⟩, h7⟩ := h
  unfold money at h3
  unfold numsB at h4
  unfold sizeB at h5
  simp only [Bool.and_eq_true, decide_eq_true_eq] at h3 h4 h5
  exact ⟨h3, ⟨h4.1.1.1, h4.1.1.2⟩, ⟨h4.1.2, h4.2⟩, h5, h6, h7⟩

theorem full_cont {p : Pr} (h : fullB p = true) (at_ : Int) : contB at_ p = true := by
  unfold fullB at h
  simp only [Bool.and_eq_true, decide_eq_true_eq] at h
  obtain ⟨⟨h1, h2⟩, h3⟩ := h
  have hd : dayN at_ < 7 := by unfold dayN; omega
  unfold contB minN
  rw [h1, h2, h3]
  have e : (127 : Int) / ((2 ^ dayN at_ : Nat) : Int) % 2 = 1 := by
    generalize dayN at_ = d at *
    match d, hd with
    | 0, _ | 1, _ | 2, _ | 3, _ | 4, _ | 5, _ | 6, _ => decide
    | n + 7, h => exact absurd h (by omega)
  rw [e]
  simp
  omega
theorem any_cont {r : Rt} (h : rateB r = true) (at_ : Int) : r.ps.any (contB at_) = true := by
  obtain ⟨_, _, _, h4, _, h6⟩ := rate_parts h
  rw [lastB_eq (by omega)] at h6
  rw [List.any_eq_true]
  exact ⟨_, List.getElem_mem _, full_cont h6 at_⟩

def atB (at_ : Int) : Bool := decide (at_ < 0) || decide (562949953421312 < at_)
def priceR (r : Rt) (at_ : Int) : AV := if (!rateB r || atB at_) = true then .tup [.int .i64 0, .bool false] else .tup [.int .i64 (idxP (contB at_) r.ps), .bool true]

theorem price17 (r : Rt) (hr : RtOk r) (hp : r.pre.length ≤ 100) (hl : r.ps.length ≤ 1000) (at_ : Int) : Spec Tryd.prog 17 [.agg r.row, .int .i64 at_] [] (priceR r at_) [] := by
  refine spec_of_wp (C := Spec Tryd.prog) (fun _ _ _ _ _ h => h) mixed m17_ok (show 2 ≤ _ by decide) ?_
  unfold m17
  simp [m17r0, m17r1, envOf]
  refine vc_call ((rated35 r hp hl).frame (Cls.cons (cl_rt _) .nil) .bool _) ?_
  simp +contextual [-condK_bool]
  refine condK_of (y := !rateB r || atB at_) (by simp [atB, Bool.or_assoc]) (fun h => ?_) (fun h => ?_)
  · simp [m17r2]
    rw [priceR, if_pos h]
    exact fin_tup2 rfl rfl
  · rw [priceR, if_neg (by simp [h])]
    have h' : 0 ≤ at_ ∧ at_ ≤ 562949953421312 := by
      simp only [atB, Bool.or_eq_false_iff, decide_eq_false_iff_not] at h
      omega
    simp [m17r3]
    refine vc_call ((price29 r hr (by omega) at_ h'.1 (by omega)).frame (Cls.cons (cl_rt _) (Cls.cons .int .nil)) .int _) ?_
    simp
    exact fin_tup2 rfl rfl

def e34 : Entry Tryd.prog where
  f := 34
  α := { x : Pr × Int // PrOk x.1 ∧ 0 ≤ x.2 ∧ x.2 < 9223372036854775808 }
  enc x := [.agg [.int .u8 x.1.1.days, .int .i64 x.1.1.fr, .int .i64 x.1.1.to], .int .i64 x.1.2]
  res x := .bool (contB x.1.2 x.1.1)
  inj a b h := by
    simp at h
    simp [contB, h]
  ok x H := (cont34 x.1.1 x.2.1 x.1.2 x.2.2.1 x.2.2.2).frame (Cls.cons (Cls.cons .int (Cls.cons .int (Cls.cons .int .nil))).agg (Cls.cons .int .nil)) .bool H
def T16 : List (Entry Tryd.prog) := [e32, e34]
theorem t16_r {H : Heap} {K : AV → Heap → Prop} {r : Rt} (h : r.pre.length ≤ 100 ∧ r.ps.length ≤ 1000) : callK (CE T16) 32 [.agg [.str r.pre, .int .i64 r.con, .int .i64 r.fi, .int .i64 r.st, .islice (prRows r.ps)]] H K = K (.bool (rateB r)) H :=
  callK_E (es := T16) (e := e32) rfl ⟨r, h⟩
theorem t16_c {H : Heap} {K : AV → Heap → Prop} {p : Pr} (hp : PrOk p) {at_ : Int} (h : 0 ≤ at_ ∧ at_ < 9223372036854775808) : callK (CE T16) 34 [.agg [.int .u8 p.days, .int .i64 p.fr, .int .i64 p.to], .int .i64 at_] H K = K (.bool (contB at_ p)) H :=
  callK_E (es := T16) (e := e34) rfl ⟨(p, at_), hp, h⟩

def P16 (r : Rt) (at_ : Int) (m : Nat) (σ : Env) (H : Heap) : Prop := ∃ k : Nat, m = r.ps.length - k ∧ k ≤ r.ps.length ∧ (r.ps.take k).any (contB at_) = false ∧ H = [.rows 0 5 [r.row]] ∧ σ = [(1, .int .i64 at_), (2, .ptr 0 0 0 0), (6, .int .i64 k)]
theorem price16 (r : Rt) (hr : RtOk r) (hp : r.pre.length ≤ 100) (hl : r.ps.length ≤ 1000) (at_ : Int) : Spec Tryd.prog 16 [.agg r.row, .int .i64 at_] [] (priceR r at_) [] := by
  refine spec_of_wp (C := CE T16) CE_ok mixed m16_ok (show 2 ≤ _ by decide) ?_
  unfold m16
  simp +contextual [m16r0, m16r1, envOf, Rt.row, t16_r ⟨hp, hl⟩, -condK_bool]
  refine condK_of (y := !rateB r || atB at_) (by simp [atB, Bool.or_assoc]) (fun h => ?_) (fun h => ?_)
  · simp [m16r2]
    rw [priceR, if_pos h]
    exact fin_tup2 rfl rfl
  rw [priceR, if_neg (by simp [h])]
  have h' : 0 ≤ at_ ∧ at_ < 9223372036854775808 := by
    simp only [atB, Bool.or_eq_false_iff, decide_eq_false_iff_not] at h
    omega
  have hrt : rateB r = true := by
    cases hh : rateB r with
    | true => rfl
    | false => rw [hh] at h; cases h
  simp [m16r3]
  refine vc_loop (P16 r at_) r.ps.length ⟨0, rfl, by omega, by simp, rfl, rfl⟩ ?_
  rintro m σ H ⟨k, rfl, hk, hall, rfl, rfl⟩
  by_cases hlt : k < r.ps.length
  · have hlt2 : (k : Int) < r.ps.length := by omega
    have z : FI (wrp .i64 ((k : Int) + 1)) (k + 1) := fi64 (by omega)
    have hpo := hr.ps _ (List.getElem_mem hlt)
    obtain ⟨p, hpq⟩ : ∃ p, p = r.ps[k] := ⟨_, rfl⟩
    rw [← hpq] at hpo
    simp [m16l8, m16r4, m16r5, hlt, hlt2, Nat.not_le.2 hlt, Rt.row, iaddr_is, ← hpq, Pr.row, t16_c hpo h']
    refine ⟨fun hc => ?_, fun hc => ?_⟩
    · simp [m16r6]
      exact fin_tup2 (idxP_some hlt (by rw [← hpq]; exact hc) hall).symm rfl
    · simp [m16r7, z.o]
      refine ⟨_, Nat.sub_succ_lt_self _ _ hlt, k + 1, rfl, hlt, ?_, rfl, rfl⟩
      rw [List.take_succ_eq_append_getElem hlt, List.any_append, hall, ← hpq]
      simp [hc]
  · have hk2 : k = r.ps.length := by omega
    subst hk2
    rw [List.take_length, any_cont hrt] at hall
    cases hall

theorem pieces27 (r : Rt) (h1 : 1 ≤ r.fi ∧ r.fi ≤ 3600) (h2 : 1 ≤ r.st ∧ r.st ≤ 3600) (free s : Int) (h3 : 0 ≤ free ∧ free ≤ 3600) (h4 : 0 ≤ s ∧ s ≤ 1000000) : Spec Tryd.prog 27 [.agg r.row, .int .i64 free, .int .i64 s] [] (.int .i64 (piecesF r free s)) [] := by
  refine spec_of_wp (C := Spec Tryd.prog) (fun _ _ _ _ _ h => h) mixed m27_ok (show 3 ≤ _ by decide) ?_
  unfold m27
  have z : FI (wrp .i64 (s - free)) (s - free) := fi64 (by omega)
  simp [m27r0, m27r1, envOf, z.o, m27r2]
  refine ⟨fun h => ?_, fun h => ?_⟩
  · simp [m27r3]
    exact fin_int (by unfold piecesF; rw [if_pos (by omega)])
  simp [m27r4, Rt.row]
  refine ⟨fun h' => ?_, fun h' => ?_⟩
  · simp [m27r5]
    exact fin_int (by unfold piecesF; rw [if_neg (by omega), if_pos h'])
  have z1 : FI (wrp .i64 (s - free - r.fi)) (s - free - r.fi) := fi64 (by omega)
  have z2 : FI (wrp .i64 (s - free - r.fi + r.st)) (s - free - r.fi + r.st) := fi64 (by omega)
  have z3 : FI (wrp .i64 (s - free - r.fi + r.st - 1)) (s - free - r.fi + r.st - 1) := fi64 (by omega)
  have z4 : FI ((s - free - r.fi + r.st - 1).tdiv r.st) ((s - free - r.fi + r.st - 1) / r.st) := ⟨Int.tdiv_eq_ediv_of_nonneg (by omega)⟩
  have hq : 0 ≤ (s - free - r.fi + r.st - 1) / r.st ∧ (s - free - r.fi + r.st - 1) / r.st ≤ s - free - r.fi + r.st - 1 := ⟨Int.ediv_nonneg (by omega) (by omega), Int.ediv_le_self _ (by omega)⟩
  have z5 : FI (wrp .i64 ((s - free - r.fi + r.st - 1) / r.st)) ((s - free - r.fi + r.st - 1) / r.st) := fi64 (by omega)
  have z6 : FI (wrp .i64 (1 + (s - free - r.fi + r.st - 1) / r.st)) (1 + (s - free - r.fi + r.st - 1) / r.st) := fi64 (by omega)
  have h0 : ¬ r.st = 0 := by omega
  simp [m27r6, z1.o, z2.o, z3.o, z4.o, z5.o, z6.o, h0]
  exact fin_int (by unfold piecesF; rw [if_neg (by omega), if_neg (by omega)])

/-- The second at which a piece begins. -/
def begF (r : Rt) (free : Int) (k : Nat) : Int := if k = 0 then free else free + r.fi + ((k : Int) - 1) * r.st
theorem mul_le {a b c d : Int} (ha : 0 ≤ a) (hb : 0 ≤ b) (h1 : a ≤ c) (h2 : b ≤ d) : 0 ≤ a * b ∧ a * b ≤ c * d :=
  ⟨Int.mul_nonneg ha hb, Int.mul_le_mul h1 h2 hb (by omega)⟩
theorem begin31 (r : Rt) (h1 : 1 ≤ r.fi ∧ r.fi ≤ 3600) (h2 : 1 ≤ r.st ∧ r.st ≤ 3600) (free : Int) (h3 : 0 ≤ free ∧ free ≤ 3600) (k : Nat) (hk : k ≤ 1000001) : Spec Tryd.prog 31 [.agg r.row, .int .i64 free, .int .i64 k] [] (.int .i64 (begF r free k)) [] := by
  refine spec_of_wp (C := Spec Tryd.prog) (fun _ _ _ _ _ h => h) mixed m31_ok (show 3 ≤ _ by decide) ?_
  unfold m31
  simp [m31r0, m31r1, envOf]
  refine ⟨fun h => ?_, fun h => ?_⟩
  · simp [m31r2]
    exact fin_int (by unfold begF; rw [if_pos (by omega)])
  have hm := mul_le (a := (k : Int) - 1) (b := r.st) (c := 1000000) (d := 3600) (by omega) (by omega) (by omega) (by omega)
  have z1 : FI (wrp .i64 (free + r.fi)) (free + r.fi) := fi64 (by omega)
  have z2 : FI (wrp .i64 ((k : Int) - 1)) ((k : Int) - 1) := fi64 (by omega)
  have z3 : FI (wrp .i64 (((k : Int) - 1) * r.st)) (((k : Int) - 1) * r.st) := fi64 (by omega)
  have z4 : FI (wrp .i64 (free + r.fi + ((k : Int) - 1) * r.st)) (free + r.fi + ((k : Int) - 1) * r.st) := fi64 (by omega)
  simp [m31r3, Rt.row, z1.o, z2.o, z3.o, z4.o]
  exact fin_int (by unfold begF; rw [if_neg (by omega)])
end Go.Ab.Tryd.S

/- Pieces, by the program and by the document. Conditions: none. -/
namespace Go.Ab.Tryd.S
open Go.Proofs

theorem ediv_one {d m b : Int} (hb : 0 < b) (h1 : m * b ≤ d) (h2 : d < (m + 1) * b) : d / b = m := by
  apply Int.le_antisymm
  · have := Int.ediv_lt_of_lt_mul hb h2; omega
  · exact Int.le_ediv_of_mul_le hb h1
theorem pieces_eq {r : Rt} {free s : Int} (h1 : 1 ≤ r.fi) (h2 : 1 ≤ r.st) {n : Nat} (hn : s ≤ begF r free n) (hl : ∀ j, j < n → begF r free j < s) : piecesF r free s = n := by
  unfold piecesF
  match n with
  | 0 =>
    unfold begF at hn
    rw [if_pos rfl] at hn
    rw [if_pos (by omega)]
    rfl
  | 1 =>
    have := hl 0 (by omega)
    unfold begF at hn this
    rw [if_pos rfl] at this
    rw [if_neg (by omega)] at hn
    have e : ((1 : Nat) : Int) - 1 = 0 := rfl
    rw [e, Int.zero_mul] at hn
    rw [if_neg (by omega), if_pos (by omega)]
    rfl
  | n + 2 =>
    have h := hl (n + 1) (by omega)
    unfold begF at hn h
    rw [if_neg (by omega)] at hn h
    have e1 : ((n + 1 : Nat) : Int) - 1 = n := by omega
    have e2 : ((n + 2 : Nat) : Int) - 1 = (n : Int) + 1 := by omega
    rw [e1] at h
    rw [e2] at hn
    have hm : 0 ≤ (n : Int) * r.st := Int.mul_nonneg (by omega) (by omega)
    have hs : ((n : Int) + 1) * r.st = n * r.st + r.st := by rw [Int.add_mul, Int.one_mul]
    have hs2 : ((n : Int) + 1 + 1) * r.st = n * r.st + r.st + r.st := by rw [Int.add_mul, hs, Int.one_mul]
    rw [if_neg (by omega), if_neg (by omega), ediv_one (m := (n : Int) + 1) (by omega) (by omega) (by omega)]
    omega
theorem begF_ge {r : Rt} {free : Int} (h1 : 1 ≤ r.fi) (h2 : 1 ≤ r.st) (h3 : 0 ≤ free) (k : Nat) : (k : Int) ≤ begF r free k := by
  unfold begF
  split
  · omega
  · have : ((k : Int) - 1) * 1 ≤ ((k : Int) - 1) * r.st := Int.mul_le_mul_of_nonneg_left h2 (by omega)
    omega
theorem begF_mono {r : Rt} {free : Int} (h1 : 1 ≤ r.fi) (h2 : 1 ≤ r.st) (k : Nat) : begF r free k < begF r free (k + 1) := by
  unfold begF
  rw [if_neg (by omega : ¬ k + 1 = 0)]
  have e : ((k + 1 : Nat) : Int) - 1 = k := by omega
  rw [e]
  split
  · rename_i h; subst h; rw [show ((0 : Nat) : Int) = 0 from rfl, Int.zero_mul]; omega
  · have : ((k : Int) - 1) * r.st = k * r.st - r.st := by rw [Int.sub_mul, Int.one_mul]
    omega
theorem begF_lt {r : Rt} {free : Int} (h1 : 1 ≤ r.fi) (h2 : 1 ≤ r.st) {j k : Nat} (h : j < k) : begF r free j < begF r free k := by
  induction k with
  | zero => omega
  | succ k ih =>
    have := begF_mono (r := r) (free := free) h1 h2 k
    by_cases e : j = k
    · rw [e]; exact this
    · have := ih (by omega); omega
theorem begF_step {r : Rt} {free : Int} (k : Nat) : begF r free (k + 1) = begF r free k + if k = 0 then r.fi else r.st := by
  unfold begF
  rw [if_neg (by omega : ¬ k + 1 = 0)]
  have e : ((k + 1 : Nat) : Int) - 1 = k := by omega
  rw [e]
  split
  · rename_i h; subst h; rw [show ((0 : Nat) : Int) = 0 from rfl, Int.zero_mul]; omega
  · have : ((k : Int) - 1) * r.st = k * r.st - r.st := by rw [Int.sub_mul, Int.one_mul]
    omega
/-- The pieces begin ahead of the end. -/
theorem begF_pieces {r : Rt} {free s : Int} (h1 : 1 ≤ r.fi) (h2 : 1 ≤ r.st) {k : Nat} (hk : (k : Int) < piecesF r free s) : begF r free k < s := by
  unfold piecesF at hk
  split at hk
  · omega
  split at hk
  · have : k = 0 := by omega
    subst this
    unfold begF
    rw [if_pos rfl]; omega
  · unfold begF
    split
    · omega
    · have hd : ((k : Int)) ≤ (s - free - r.fi + r.st - 1) / r.st := by omega
      have := Int.mul_le_of_le_ediv (by omega) hd
      have e : ((k : Int) - 1) * r.st = k * r.st - r.st := by rw [Int.sub_mul, Int.one_mul]
      omega
theorem pieces_ge {r : Rt} {free s : Int} (h2 : 1 ≤ r.st) : 0 ≤ piecesF r free s := by
  unfold piecesF
  split
  · omega
  split
  · omega
  · have : 0 ≤ (s - free - r.fi + r.st - 1) / r.st := Int.ediv_nonneg (by omega) (by omega)
    omega

def pargB (free s : Int) : Bool := decide (free < 0) || decide (3600 < free) || decide (s < 0) || decide (1000000 < s)
def piecesR (r : Rt) (free s : Int) : Int := if (!rateB r || pargB free s) = true then 0 else piecesF r free s
theorem parg_no {r : Rt} {free s : Int} (h : (!rateB r || pargB free s) = false) : rateB r = true ∧ (0 ≤ free ∧ free ≤ 3600) ∧ (0 ≤ s ∧ s ≤ 1000000) := by
  unfold pargB at h
  simp only [Bool.or_eq_false_iff, decide_eq_false_iff_not, Bool.not_eq_false'] at h
  exact ⟨h.1, by omega, by omega⟩

theorem pieces20 (r : Rt) (hp : r.pre.length ≤ 100) (hl : r.ps.length ≤ 1000) (free s : Int) : Spec Tryd.prog 20 [.agg r.row, .int .i64 free, .int .i64 s] [] (.int .i64 (piecesR r free s)) [] := by
  refine spec_of_wp (C := Spec Tryd.prog) (fun _ _ _ _ _ h => h) mixed m20_ok (show 3 ≤ _ by decide) ?_
  unfold m20
  simp [m20r0, m20r1, envOf]
  refine vc_call ((rated35 r hp hl).frame (Cls.cons (cl_rt _) .nil) .bool _) ?_
  simp +contextual [-condK_bool]
  refine condK_of (y := !rateB r || pargB free s) (by simp [pargB, Bool.or_assoc]) (fun h => ?_) (fun h => ?_)
  · simp [m20r2]
    exact fin_int (by unfold piecesR; rw [if_pos h])
  · obtain ⟨h1, h2, h3⟩ := parg_no h
    obtain ⟨_, h4, h5, _⟩ := rate_parts h1
    simp [m20r3]
    refine vc_call ((pieces27 r h4 h5 free s h2 h3).frame (Cls.cons (cl_rt _) (Cls.cons .int (Cls.cons .int .nil))) .int _) ?_
    simp
    exact fin_int (by unfold piecesR; rw [if_neg (by simp [h])])

def P21 (r : Rt) (free s : Int) (m : Nat) (σ : Env) (H : Heap) : Prop := ∃ k : Nat, m = 1000001 - k ∧ k ≤ 1000000 ∧ (∀ j, j < k → begF r free j < s) ∧ H = [.rows 0 5 [r.row]] ∧ σ = [(1, .int .i64 free), (2, .int .i64 s), (3, .ptr 0 0 0 0), (7, .int .i64 k)]
theorem pieces21 (r : Rt) (hp : r.pre.length ≤ 100) (hl : r.ps.length ≤ 1000) (free s : Int) : Spec Tryd.prog 21 [.agg r.row, .int .i64 free, .int .i64 s] [] (.int .i64 (piecesR r free s)) [] := by
  refine spec_of_wp (C := Spec Tryd.prog) (fun _ _ _ _ _ h => h) mixed m21_ok (show 3 ≤ _ by decide) ?_
  unfold m21
  simp [m21r0, m21r1, envOf]
  refine vc_call ((rate32 r hp hl).frame (Cls.cons (cl_rt _) .nil) .bool _) ?_
  simp +contextual [-condK_bool]
  refine condK_of (y := !rateB r || pargB free s) (by simp [pargB, Bool.or_assoc]) (fun h => ?_) (fun h => ?_)
  · simp [m21r2]
    exact fin_int (by unfold piecesR; rw [if_pos h])
  obtain ⟨h1, h2, h3⟩ := parg_no h
  obtain ⟨_, h4, h5, _⟩ := rate_parts h1
  simp [m21r3]
  refine vc_loop (P21 r free s) 1000001 ⟨0, rfl, by omega, fun j h => absurd h (Nat.not_lt_zero _), rfl, rfl⟩ ?_
  rintro m σ H ⟨k, rfl, hk, hall, rfl, rfl⟩
  have z : FI (wrp .i64 ((k : Int) + 1)) (k + 1) := fi64 (by omega)
  simp [m21l6, m21r4]
  refine vc_call ((begin31 r h4 h5 free h2 k (by omega)).frame (Cls.cons (cl_rt _) (Cls.cons .int (Cls.cons .int .nil))) .int _) ?_
  simp
  refine ⟨fun hb => ?_, fun hb => ?_⟩
  · have hge := begF_ge (r := r) (free := free) (by omega) (by omega) h2.1 k
    simp [m21r5, z.o]
    refine ⟨1000001 - (k + 1), by omega, k + 1, rfl, by omega, fun j hj => ?_, rfl, rfl⟩
    by_cases e : j = k
    · rw [e]; exact hb
    · exact hall j (by omega)
  · simp [m21r7]
    exact fin_int (by unfold piecesR; rw [if_neg (by simp [h]), pieces_eq (by omega) (by omega) hb hall])
end Go.Ab.Tryd.S
