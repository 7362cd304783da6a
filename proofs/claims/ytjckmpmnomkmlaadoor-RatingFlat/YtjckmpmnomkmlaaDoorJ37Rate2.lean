/- Whether a rate is valid. Conditions: none. -/
import Derived.Test.YtjckmpmnomkmlaaDoorJ37Con
import Derived.Test.YtjckmpmnomkmlaaDoorJ37Trim
namespace Go.Ab.Tryd.S
open Go.Proofs

theorem pr_inj {a b : Pr} (h : a.row = b.row) : a = b := by
  cases a; cases b
  simp [Pr.row] at h
  simp [h]
theorem prRows_inj {a b : List Pr} (h : prRows a = prRows b) : a = b := map_enc_inj (fun _ _ => pr_inj) h
theorem rt_inj {a b : Rt} (h : a.row = b.row) : a = b := by
  cases a; cases b
  simp [Rt.row] at h
  obtain ⟨h1, h2, h3, h4, h5⟩ := h
  have := prRows_inj h5
  simp [h1, h2, h3, h4, this]
theorem rtRows_inj {a b : List Rt} (h : rtRows a = rtRows b) : a = b := map_enc_inj (fun _ _ => rt_inj) h
theorem tf_inj {a b : Tf} (h : a.row = b.row) : a = b := by
  cases a; cases b
  simp [Tf.row] at h
  have := rtRows_inj h.1
  simp [h.2, this]

def e44 : Entry Tryd.prog where
  f := 44
  α := { s : List UInt8 // s.length ≤ 100 }
  enc s := [.str s.1, .str digs]
  res s := .str (trimF s.1)
  inj a b h := by
    have : a.1 = b.1 := by simpa using h
    rw [this]
  ok s H := (trim44 s.1 s.2).frame (Cls.cons .str (Cls.cons .str .nil)) .str H
def e45 : Entry Tryd.prog where
  f := 45
  α := { l : List Pr // l.length ≤ 1000000 }
  enc l := [.islice (prRows l.1), .func 46 [] []]
  res l := .bool (l.1.any fun p => !priceB p)
  inj a b h := by
    have : a.1 = b.1 := prRows_inj (by simpa using h)
    rw [this]
  ok l H := (bad45 l.1 l.2).frame (Cls.cons (cl_plain (prRows_plain _)) (Cls.cons (.func Cls.nil Cls.nil) .nil)) .bool H
def T35 : List (Entry Tryd.prog) := [e44, e45]
section
variable {H : Heap} {K : AV → Heap → Prop}
theorem t35_trim {s : List UInt8} (h : s.length ≤ 100) : callK (CE T35) 44 [.str s, .str [48, 49, 50, 51, 52, 53, 54, 55, 56, 57]] H K = K (.str (trimF s)) H :=
  callK_E (es := T35) (e := e44) rfl ⟨s, h⟩
theorem t35_bad {l : List Pr} (hl : l.length ≤ 1000000) : callK (CE T35) 45 [.islice (prRows l), .func 46 [] []] H K = K (.bool (l.any fun p => !priceB p)) H :=
  callK_E (es := T35) (e := e45) rfl ⟨l, hl⟩
end

def c1B (r : Rt) : Bool := decide (20 < r.pre.length) || !r.pre.all digB || decide (r.con < 0) || decide (1000000000 < r.con)
def c2B (r : Rt) : Bool := decide (r.fi < 1) || decide (3600 < r.fi) || decide (r.st < 1) || decide (3600 < r.st) || decide (r.ps.length < 1) || decide (20 < r.ps.length)
theorem rateB_eq (r : Rt) : rateB r = (!c1B r && !c2B r && !(r.ps.any fun p => !priceB p) && lastB r.ps) := by
  have e : r.ps.all priceB = !(r.ps.any fun p => !priceB p) := by
    rw [List.not_any_eq_all_not]
    congr 1
    funext p
    rw [Bool.not_not]
  unfold rateB
  rw [e]
  unfold c1B c2B numsB sizeB money
  rw [Bool.eq_iff_iff]
  simp only [Bool.and_eq_true, Bool.or_eq_true, Bool.not_eq_true', Bool.or_eq_false_iff, decide_eq_true_eq, decide_eq_false_iff_not, Bool.not_eq_false']
  constructor
  · rintro ⟨⟨⟨⟨⟨⟨a, b⟩, c, d⟩, ⟨⟨e, f⟩, g⟩, h⟩, i, j⟩, k⟩, l⟩
    exact ⟨⟨⟨⟨⟨⟨by omega, b⟩, by omega⟩, by omega⟩, ⟨⟨⟨⟨by omega, by omega⟩, by omega⟩, by omega⟩, by omega⟩, by omega⟩, k⟩, l⟩
  · rintro ⟨⟨⟨⟨⟨⟨a, b⟩, c⟩, d⟩, ⟨⟨⟨⟨e, f⟩, g⟩, h⟩, i⟩, j⟩, k⟩, l⟩
    exact ⟨⟨⟨⟨⟨⟨by omega, b⟩, by omega, by omega⟩, ⟨⟨by omega, by omega⟩, by omega⟩, by omega⟩, by omega, by omega⟩, k⟩, l⟩
theorem lastB_eq {l : List Pr} (h : 0 < l.length) : lastB l = fullB (l[l.length - 1]'(by omega)) := by
  unfold lastB
  rw [List.getLast?_eq_getElem?, List.getElem?_eq_getElem (by omega)]

theorem flat3 {a b c a' b' c' : Int} : binAV .eql (.flat [0, 0, 0]) (.agg [.int .u8 a, .int .i64 b, .int .i64 c]) (.agg [.int .u8 a', .int .i64 b', .int .i64 c']) = some (.bool (decide (a = a') && (decide (b = b') && decide (c = c')))) := by
  simp [binAV, eqAV, cellsEq, cellEq]
theorem rated35 (r : Rt) (hp : r.pre.length ≤ 100) (hl : r.ps.length ≤ 1000) : Spec Tryd.prog 35 [.agg r.row] [] (.bool (rateB r)) [] := by
  refine spec_of_wp (C := CE T35) CE_ok mixed m35_ok (show 1 ≤ _ by decide) ?_
  unfold m35
  have fin : ∀ {x : Bool} {H : Heap}, x = rateB r → Fin [] (.bool x) H (.bool (rateB r)) [] := fun h => fin_bool h
  rw [rateB_eq] at fin ⊢
  simp +contextual [m35r0, m35r1, envOf, Rt.row, t35_trim hp, -condK_bool]
  refine condK_of (y := c1B r) ?_ (fun h => ?_) (fun h1 => ?_)
  · rw [trim_nil]
    unfold c1B
    congr 3
    rw [decide_eq_decide]; omega
  · simp [m35r2]
    exact fin (by simp [h])
  simp +contextual [m35r3, -condK_bool]
  refine condK_of (y := c2B r) ?_ (fun h => ?_) (fun h2 => ?_)
  · unfold c2B
    rw [Bool.eq_iff_iff]
    simp only [Bool.or_eq_true, decide_eq_true_eq]
    omega
  · simp [m35r4]
    exact fin (by simp [h])
  have h3 : 1 ≤ r.ps.length := by
    unfold c2B at h2
    simp only [Bool.or_eq_false_iff, decide_eq_false_iff_not] at h2
    omega
  have z : FI (wrp .i64 ((r.ps.length : Int) - 1)) ((r.ps.length - 1 : Nat) : Int) := ⟨by rw [wrp_i64 (by omega)]; omega⟩
  have h4 : ((r.ps.length - 1 : Nat) : Int) < r.ps.length := by omega
  have h5 : r.ps.length - 1 < r.ps.length := by omega
  rw [h1, h2, lastB_eq h3] at fin ⊢
  obtain ⟨p, hpq⟩ : ∃ p, p = r.ps[r.ps.length - 1] := ⟨_, rfl⟩
  rw [← hpq] at fin ⊢
  simp +contextual [m35r5, t35_bad (show r.ps.length ≤ 1000000 by omega)]
  generalize (r.ps.any fun p => !priceB p) = bad at *
  simp +contextual [m35r6, z.o, iaddr_is, h4, h5, ← hpq, Pr.row, flat3]
  refine fin ?_
  simp [fullB, Bool.and_assoc]
end Go.Ab.Tryd.S

/- Whether a rate is valid, by the document. Conditions: none. -/
namespace Go.Ab.Tryd.S
open Go.Proofs

def e41 : Entry Tryd.prog where
  f := 41
  α := Int
  enc n := [.int .i64 n]
  res n := .bool (money n)
  inj a b h := by
    have : a = b := by simpa using h
    rw [this]
  ok n H := (money41 n).frame (Cls.cons .int .nil) .bool H
def e42 : Entry Tryd.prog where
  f := 42
  α := Int × Int × Int
  enc p := [.agg [.int .u8 p.1, .int .i64 p.2.1, .int .i64 p.2.2]]
  res p := .bool (bandB ⟨p.1, p.2.1, p.2.2, 0, 0⟩)
  inj a b h := by
    obtain ⟨a1, a2, a3⟩ := a
    obtain ⟨b1, b2, b3⟩ := b
    simp at h
    obtain ⟨rfl, rfl, rfl⟩ := h
    rfl
  ok p H := (band42 ⟨p.1, p.2.1, p.2.2, 0, 0⟩).frame (Cls.cons (Cls.cons .int (Cls.cons .int (Cls.cons .int .nil))).agg .nil) .bool H
def T32 : List (Entry Tryd.prog) := [e41, e42]
section
variable {H : Heap} {K : AV → Heap → Prop}
theorem t32_money {n : Int} : callK (CE T32) 41 [.int .i64 n] H K = K (.bool (money n)) H :=
  callK_E (es := T32) (e := e41) rfl n
theorem t32_band {a b c : Int} : callK (CE T32) 42 [.agg [.int .u8 a, .int .i64 b, .int .i64 c]] H K = K (.bool (bandB ⟨a, b, c, 0, 0⟩)) H :=
  callK_E (es := T32) (e := e42) rfl (a, b, c)
end

def d1B (r : Rt) : Bool := decide (20 < r.pre.length) || !money r.con || !numsB r
theorem rateB_eq2 (r : Rt) : rateB r = (!d1B r && r.pre.all digB && sizeB r && r.ps.all priceB && lastB r.ps) := by
  unfold rateB d1B
  rw [show decide (r.pre.length ≤ 20) = !decide (20 < r.pre.length) by rw [Bool.eq_iff_iff]; simp]
  cases decide (20 < r.pre.length) <;> cases money r.con <;> cases numsB r <;> cases r.pre.all digB <;> simp

def P32 (r : Rt) (m : Nat) (σ : Env) (H : Heap) : Prop := ∃ k : Nat, m = r.pre.length - k ∧ k ≤ r.pre.length ∧ (r.pre.take k).all digB = true ∧ H = [.rows 0 5 [r.row]] ∧ σ = [(1, .ptr 0 0 0 0), (3, .int .i64 k)]
def Q32 (r : Rt) (m : Nat) (σ : Env) (H : Heap) : Prop := ∃ (k : Nat) (N : Heap), m = r.ps.length - k ∧ k ≤ r.ps.length ∧ (r.ps.take k).all priceB = true ∧ H = .rows 0 5 [r.row] :: N ∧ σ = [(1, .ptr 0 0 0 0), (4, .int .i64 k)]

theorem take_all {α : Type} {p : α → Bool} {l : List α} {k : Nat} (h : k < l.length) (ha : (l.take k).all p = true) (hp : p l[k] = true) : (l.take (k + 1)).all p = true := by
  rw [List.take_succ_eq_append_getElem h, List.all_append, ha]
  simp [hp]
theorem not_all {α : Type} {p : α → Bool} {l : List α} {k : Nat} (h : k < l.length) (hp : p l[k] = false) : l.all p = false := by
  rw [List.all_eq_false]
  exact ⟨_, List.getElem_mem h, by simp [hp]⟩

theorem rate32 (r : Rt) (hp : r.pre.length ≤ 100) (hl : r.ps.length ≤ 1000) : Spec Tryd.prog 32 [.agg r.row] [] (.bool (rateB r)) [] := by
  refine spec_of_wp (C := CE T32) CE_ok mixed m32_ok (show 1 ≤ _ by decide) ?_
  unfold m32
  have fin : ∀ {x : Bool} {H : Heap}, x = rateB r → Fin [] (.bool x) H (.bool (rateB r)) [] := fun h => fin_bool h
  rw [rateB_eq2] at fin ⊢
  obtain ⟨v, hv⟩ : ∃ v, v = (!d1B r && r.pre.all digB && sizeB r && r.ps.all priceB && lastB r.ps) := ⟨_, rfl⟩
  rw [← hv] at fin ⊢
  simp +contextual [m32r0, m32r1, envOf, Rt.row, t32_money, -condK_bool]
  refine condK_of (y := d1B r) ?_ (fun h => ?_) (fun h1 => ?_)
  · unfold d1B numsB
    rw [Bool.eq_iff_iff]
    simp only [Bool.or_eq_true, decide_eq_true_eq, Bool.not_eq_true', Bool.and_eq_false_iff, decide_eq_false_iff_not]
    cases money r.con <;> simp <;> omega
  · simp [m32r2]
    exact fin (by rw [hv]; simp [h])
  simp [m32r3]
  refine vc_loop (P32 r) r.pre.length ⟨0, rfl, by omega, by simp, rfl, rfl⟩ ?_
  rintro m σ H ⟨k, rfl, hk, hall, rfl, rfl⟩
  by_cases hlt : k < r.pre.length
  · have hlt2 : (k : Int) < r.pre.length := by omega
    have z : FI (wrp .i64 ((k : Int) + 1)) (k + 1) := fi64 (by omega)
    simp [m32l8, m32r4, hlt2, hlt, Nat.not_le.2 hlt, Rt.row]
    simp +contextual [m32r5, hlt, hlt2, Rt.row, -condK_bool]
    refine condK_of (y := !digB r.pre[k]) ?_ (fun h => ?_) (fun h => ?_)
    · unfold digB
      rw [Bool.eq_iff_iff]
      simp
      omega
    · simp [m32r6]
      exact fin (by rw [hv, not_all hlt (by simpa using h)]; simp)
    · simp [m32r7, z.o]
      exact ⟨r.pre.length - (k + 1), Nat.sub_succ_lt_self _ _ hlt, k + 1, rfl, hlt, take_all hlt hall (by simpa using h), rfl, rfl⟩
  have hk2 : k = r.pre.length := by omega
  subst hk2
  rw [List.take_length] at hall
  simp [m32l8, m32r4, Rt.row]
  simp +contextual [m32r9, -condK_bool]
  refine condK_of (y := !sizeB r) ?_ (fun h => ?_) (fun hsz => ?_)
  · unfold sizeB
    rw [Bool.eq_iff_iff]
    generalize r.ps.length = n
    simp
    omega
  · simp [m32r10]
    exact fin (by rw [hv]; simp at h; simp [h])
  have hsz : sizeB r = true := by simpa using hsz
  rw [h1, hall, hsz] at hv
  simp only [Bool.not_false, Bool.true_and] at hv
  have h3 : 1 ≤ r.ps.length := by
    unfold sizeB at hsz
    simp only [Bool.and_eq_true, decide_eq_true_eq] at hsz
    omega
  simp [m32r11]
  refine vc_loop (Q32 r) r.ps.length ⟨0, [], rfl, by omega, by simp, rfl, rfl⟩ ?_
  rintro m σ H ⟨k, N, rfl, hk, hall2, rfl, rfl⟩
  by_cases hlt : k < r.ps.length
  · have hlt2 : (k : Int) < r.ps.length := by omega
    have z : FI (wrp .i64 ((k : Int) + 1)) (k + 1) := fi64 (by omega)
    obtain ⟨p, hpq⟩ : ∃ p, p = r.ps[k] := ⟨_, rfl⟩
    simp [m32l17, m32r12, m32r13, hlt, hlt2, Rt.row, iaddr_is, ← hpq, Pr.row]
    simp +contextual [m32r14, t32_band, t32_money, -condK_bool]
    refine condK_of (y := !priceB p) ?_ (fun h => ?_) (fun h => ?_)
    · have e : bandB ⟨p.days, p.fr, p.to, 0, 0⟩ = bandB p := rfl
      unfold priceB
      rw [e]
      cases bandB p <;> cases money p.fi <;> cases money p.st <;> simp
    · simp [m32r15]
      exact fin (by rw [hv, not_all hlt (by rw [← hpq]; simpa using h)]; simp)
    · simp [m32r16, z.o]
      exact ⟨r.ps.length - (k + 1), Nat.sub_succ_lt_self _ _ hlt, k + 1, _, rfl, hlt, take_all hlt hall2 (by rw [← hpq]; simpa using h), rfl, rfl⟩
  have hk2 : k = r.ps.length := by omega
  subst hk2
  rw [List.take_length] at hall2
  rw [hall2, lastB_eq h3, Bool.true_and] at hv
  have z : FI (wrp .i64 ((r.ps.length : Int) - 1)) ((r.ps.length - 1 : Nat) : Int) := ⟨by rw [wrp_i64 (by omega)]; omega⟩
  have h4 : ((r.ps.length - 1 : Nat) : Int) < r.ps.length := by omega
  have h5 : r.ps.length - 1 < r.ps.length := by omega
  obtain ⟨p, hpq⟩ : ∃ p, p = r.ps[r.ps.length - 1] := ⟨_, rfl⟩
  rw [← hpq] at hv
  simp [m32l17, m32r12, Rt.row]
  simp +contextual [m32r18, z.o, iaddr_is, h4, h5, ← hpq, Pr.row]
  simp +contextual [m32r19]
  exact fin (by rw [hv]; simp [fullB])
end Go.Ab.Tryd.S
