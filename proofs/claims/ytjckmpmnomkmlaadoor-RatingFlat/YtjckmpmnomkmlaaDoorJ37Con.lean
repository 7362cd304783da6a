/- The small functions of the chapter. Conditions: none. -/
import Derived.Test.YtjckmpmnomkmlaaDoorJ37Base
import Derived.Test.YtjckmpmnomkmlaaDoorAbTab
namespace Go.Ab.Tryd.S
open Go.Proofs

theorem money41 (n : Int) : Spec Tryd.prog 41 [.int .i64 n] [] (.bool (money n)) [] := by
  refine spec_of_wp (C := Spec Tryd.prog) (fun _ _ _ _ _ h => h) mixed m41_ok (show 1 ≤ _ by decide) ?_
  unfold m41
  simp +contextual [m41r0, m41r1, envOf]
  exact fin_bool rfl
theorem band42 (p : Pr) : Spec Tryd.prog 42 [.agg [.int .u8 p.days, .int .i64 p.fr, .int .i64 p.to]] [] (.bool (bandB p)) [] := by
  refine spec_of_wp (C := Spec Tryd.prog) (fun _ _ _ _ _ h => h) mixed m42_ok (show 1 ≤ _ by decide) ?_
  unfold m42
  simp +contextual [m42r0, m42r1, envOf]
  exact fin_bool rfl
theorem banded47 (p : Pr) : Spec Tryd.prog 47 [.agg p.row] [] (.bool (priceB p)) [] := by
  refine spec_of_wp (C := Spec Tryd.prog) (fun _ _ _ _ _ h => h) mixed m47_ok (show 1 ≤ _ by decide) ?_
  unfold m47
  simp +contextual [m47r0, m47r1, m47r2, envOf, Pr.row]
  refine fin_bool ?_
  simp only [priceB, bandB, money, Bool.and_assoc]
theorem banded46 (p : Pr) : Spec Tryd.prog 46 [.agg p.row] [] (.bool (!priceB p)) [] := by
  refine spec_of_wp (C := Spec Tryd.prog) (fun _ _ _ _ _ h => h) mixed m46_ok (show 1 ≤ _ by decide) ?_
  unfold m46
  simp +contextual [m46r0, m46r1, envOf]
  refine vc_call ((banded47 p).frame (Cls.cons (cl_pr p) .nil) .bool _) ?_
  simp
  exact fin_bool rfl
theorem span25 (a b : Int) : Spec Tryd.prog 25 [.int .i64 a, .int .i64 b] [] (.bool (spanB a b)) [] := by
  refine spec_of_wp (C := Spec Tryd.prog) (fun _ _ _ _ _ h => h) mixed m25_ok (show 2 ≤ _ by decide) ?_
  unfold m25
  simp +contextual [m25r0, m25r1, envOf]
  exact fin_bool rfl
theorem span30 (a b : Int) : Spec Tryd.prog 30 [.int .i64 a, .int .i64 b] [] (.bool (spanB a b)) [] := by
  refine spec_of_wp (C := Spec Tryd.prog) (fun _ _ _ _ _ h => h) mixed m30_ok (show 2 ≤ _ by decide) ?_
  unfold m30
  simp +contextual [m30r0, m30r1, envOf]
  refine fin_bool ?_
  unfold spanB
  rw [Bool.eq_iff_iff]
  simp only [Bool.and_eq_true, decide_eq_true_eq]
  omega
theorem secs18 (a b : Int) : Spec Tryd.prog 18 [.int .i64 a, .int .i64 b] [] (.int .i64 (secsF a b)) [] := by
  refine spec_of_wp (C := Spec Tryd.prog) (fun _ _ _ _ _ h => h) mixed m18_ok (show 2 ≤ _ by decide) ?_
  unfold m18
  simp +contextual [m18r0, m18r1, envOf]
  refine vc_call ((span25 a b).frame (Cls.cons .int (Cls.cons .int .nil)) .bool _) ?_
  by_cases h : spanB a b = true
  · have e : secsF a b = (b - a + 999) / 1000 := by simp [secsF, h]
    unfold spanB at h
    simp only [Bool.and_eq_true, decide_eq_true_eq] at h
    have z : FI (wrp .i64 (b - a)) (b - a) := fi64 (by omega)
    have z2 : FI (wrp .i64 (b - a + 999)) (b - a + 999) := fi64 (by omega)
    have z3 : FI ((b - a + 999).tdiv 1000) ((b - a + 999) / 1000) := ⟨by rw [Int.tdiv_eq_ediv_of_nonneg (by omega)]⟩
    have z4 : FI (wrp .i64 ((b - a + 999) / 1000)) ((b - a + 999) / 1000) := fi64 (by omega)
    have hs : spanB a b = true := by unfold spanB; simp [h]
    simp [hs, m18r3, z.o, z2.o, z3.o, z4.o]
    exact fin_int e.symm
  · have h : spanB a b = false := by simpa using h
    simp [h, m18r2]
    exact fin_int (by simp [secsF, h])
theorem secs19 (a b : Int) : Spec Tryd.prog 19 [.int .i64 a, .int .i64 b] [] (.int .i64 (secsF a b)) [] := by
  refine spec_of_wp (C := Spec Tryd.prog) (fun _ _ _ _ _ h => h) mixed m19_ok (show 2 ≤ _ by decide) ?_
  unfold m19
  simp +contextual [m19r0, m19r1, envOf]
  refine vc_call ((span30 a b).frame (Cls.cons .int (Cls.cons .int .nil)) .bool _) ?_
  by_cases h : spanB a b = true
  · have e : secsF a b = (b - a + 999) / 1000 := by simp [secsF, h]
    have hs := h
    unfold spanB at h
    simp only [Bool.and_eq_true, decide_eq_true_eq] at h
    have z : FI (wrp .i64 (b - a)) (b - a) := fi64 (by omega)
    have z3 : FI ((b - a).tdiv 1000) ((b - a) / 1000) := ⟨by rw [Int.tdiv_eq_ediv_of_nonneg (by omega)]⟩
    have z4 : FI (wrp .i64 ((b - a) / 1000)) ((b - a) / 1000) := fi64 (by omega)
    have z5 : FI ((b - a).tmod 1000) ((b - a) % 1000) := ⟨by rw [Int.tmod_eq_emod_of_nonneg (by omega)]⟩
    have z6 : FI (wrp .i64 ((b - a) / 1000 + 1)) ((b - a) / 1000 + 1) := fi64 (by omega)
    simp [hs, m19r3, m19r4, z.o, z3.o, z4.o, z5.o]
    refine ⟨fun hp => ?_, fun hp => ?_⟩
    · simp [m19r5, m19r6, z6.o]
      exact fin_int (by omega)
    · simp [m19r6]
      exact fin_int (by omega)
  · have h : spanB a b = false := by simpa using h
    simp [h, m19r2]
    exact fin_int (by simp [secsF, h])

def hasB (s p : List UInt8) : Bool := decide (p.length ≤ s.length) && decide (s.take p.length = p)
theorem has48 (s p : List UInt8) : Spec Tryd.prog 48 [.str s, .str p] [] (.bool (hasB s p)) [] := by
  refine spec_of_wp (C := Spec Tryd.prog) (fun _ _ _ _ _ h => h) mixed m48_ok (show 2 ≤ _ by decide) ?_
  unfold m48
  simp +contextual [m48r0, m48r1, envOf]
  exact fin_bool (by simp [hasB])
theorem has36 (s p : List UInt8) : Spec Tryd.prog 36 [.str s, .str p] [] (.bool (hasB s p)) [] := by
  refine spec_of_wp (C := Spec Tryd.prog) (fun _ _ _ _ _ h => h) mixed m36_ok (show 2 ≤ _ by decide) ?_
  unfold m36
  simp +contextual [m36r0, m36r1, envOf]
  refine vc_call ((has48 s p).frame (Cls.cons .str (Cls.cons .str .nil)) .bool _) ?_
  simp
  exact fin_bool rfl
theorem has33 (s p : List UInt8) : Spec Tryd.prog 33 [.str s, .str p] [] (.bool (hasB s p)) [] := by
  refine spec_of_wp (C := Spec Tryd.prog) (fun _ _ _ _ _ h => h) mixed m33_ok (show 2 ≤ _ by decide) ?_
  unfold m33
  simp +contextual [m33r0, m33r1, envOf]
  exact fin_bool (by simp [hasB])

def B43 (n : Nat) (m : Nat) (σ : Env) (H : Heap) : Prop := ∃ k : Nat, m = n - k ∧ k ≤ n ∧ H = [] ∧ σ = [(0, .int .i64 (n : Int)), (3, .int .i64 ((2 ^ k : Nat) : Int)), (4, .int .i64 (k : Int))]
theorem bit43 (n : Nat) (hn : n < 60) : Spec Tryd.prog 43 [.int .i64 n] [] (.int .i64 ((2 ^ n : Nat) : Int)) [] := by
  refine spec_of_wp (C := Spec Tryd.prog) (fun _ _ _ _ _ h => h) mixed m43_ok (show 1 ≤ _ by decide) ?_
  unfold m43
  simp +contextual [m43r0, m43r1, m43r2, envOf]
  refine vc_loop (B43 n) n ⟨0, rfl, by omega, rfl, rfl⟩ ?_
  rintro m σ H ⟨k, rfl, hk, rfl, rfl⟩
  by_cases hlt : k < n
  · have hlt2 : (k : Int) < n := by omega
    have z : FI (wrp .i64 ((k : Int) + 1)) (k + 1) := fi64 (by omega)
    have hb : 2 ^ k ≤ 2 ^ 60 := Nat.pow_le_pow_right (by omega) (by omega)
    have z2 : FI (wrp .i64 (2 * ((2 ^ k : Nat) : Int))) ((2 ^ (k + 1) : Nat) : Int) := ⟨by
      have e : 2 ^ (k + 1) = 2 ^ k * 2 := Nat.pow_succ ..
      have hb' : 2 ^ k ≤ 1152921504606846976 := hb
      rw [e]
      generalize (2 ^ k : Nat) = q at *
      rw [wrp_i64 (by omega)]; omega⟩
    simp only [Int.natCast_pow, Int.cast_ofNat_Int] at z2
    simp [m43l6, m43r3, m43r4, m43r5, hlt2, hlt, z.o, z2.o]
    exact ⟨n - (k + 1), Nat.sub_succ_lt_self _ _ hlt, k + 1, rfl, hlt, rfl, by simp⟩
  · have hk2 : k = n := by omega
    subst hk2
    simp [m43l6, m43r3, m43r7]
    exact fin_int (by simp)
end Go.Ab.Tryd.S

/- Bands and moments; the index of a price. Conditions: none. -/
namespace Go.Ab.Tryd.S
open Go.Proofs

/-- The numbers of a moment. -/
structure AtF (at_ : Int) : Prop where
  d1 : FI (at_.tdiv 86400000) (at_ / 86400000)
  d2 : FI (wrp .i64 (at_ / 86400000)) (at_ / 86400000)
  d3 : FI ((at_ / 86400000).tmod 7) (dayN at_ : Nat)
  m1 : FI (at_.tdiv 60000) (at_ / 60000)
  m2 : FI (wrp .i64 (at_ / 60000)) (at_ / 60000)
  m3 : FI ((at_ / 60000).tmod 1440) (minN at_)
  lt : dayN at_ < 7
theorem atF {at_ : Int} (h0 : 0 ≤ at_) (h1 : at_ < 9223372036854775808) : AtF at_ where
  d1 := ⟨Int.tdiv_eq_ediv_of_nonneg h0⟩
  d2 := fi64 (by omega)
  d3 := ⟨by rw [Int.tmod_eq_emod_of_nonneg (by omega)]; unfold dayN; omega⟩
  m1 := ⟨Int.tdiv_eq_ediv_of_nonneg h0⟩
  m2 := fi64 (by omega)
  m3 := ⟨by rw [Int.tmod_eq_emod_of_nonneg (by omega)]; rfl⟩
  lt := by unfold dayN; omega

theorem shr_bit {d : Int} (h : 0 ≤ d ∧ d < 256) (n : Nat) : (wrp .u8 ((toU .u8 (d / ((2 ^ n : Nat) : Int)) &&& toU .u8 1 : Nat) : Int) = 1) ↔ d / ((2 ^ n : Nat) : Int) % 2 = 1 := by
  obtain ⟨k, rfl⟩ : ∃ k : Nat, d = k := ⟨d.toNat, by omega⟩
  have e : (k : Int) / ((2 ^ n : Nat) : Int) = ((k / 2 ^ n : Nat) : Int) := rfl
  have hk : k / 2 ^ n ≤ k := Nat.div_le_self ..
  have hk2 : k < 256 := by omega
  have e1 : toU .u8 (1 : Int) = 1 := rfl
  rw [e, toUN_u8, e1, Nat.and_one_is_mod, wrpN_u8]
  generalize k / 2 ^ n = q at *
  omega

theorem cont40 (p : Pr) (hp : PrOk p) (at_ : Int) (h0 : 0 ≤ at_) (h1 : at_ < 9223372036854775808) : Spec Tryd.prog 40 [.agg [.int .u8 p.days, .int .i64 p.fr, .int .i64 p.to], .int .i64 at_] [] (.bool (contB at_ p)) [] := by
  refine spec_of_wp (C := Spec Tryd.prog) (fun _ _ _ _ _ h => h) mixed m40_ok (show 2 ≤ _ by decide) ?_
  unfold m40
  have z := atF h0 h1
  have hd := z.lt
  have hmin : min (dayN at_) (bitsOf .u8) = dayN at_ := by simp [bitsOf]; omega
  simp +contextual [m40r0, m40r1, m40r2, envOf, z.d1.o, z.d2.o, z.d3.o, z.m1.o, z.m2.o, z.m3.o, hmin]
  refine fin_bool ?_
  have hb := shr_bit hp.d (dayN at_)
  simp only [wrpN_u8, Int.natCast_emod, Int.natCast_pow, Int.cast_ofNat_Int] at hb
  simp only [contB, Int.natCast_pow, Int.cast_ofNat_Int, ← decide_eq_decide.2 hb]
theorem cont34 (p : Pr) (hp : PrOk p) (at_ : Int) (h0 : 0 ≤ at_) (h1 : at_ < 9223372036854775808) : Spec Tryd.prog 34 [.agg [.int .u8 p.days, .int .i64 p.fr, .int .i64 p.to], .int .i64 at_] [] (.bool (contB at_ p)) [] := by
  refine spec_of_wp (C := Spec Tryd.prog) (fun _ _ _ _ _ h => h) mixed m34_ok (show 2 ≤ _ by decide) ?_
  unfold m34
  have z := atF h0 h1
  have hd := z.lt
  have hd0 := hp.d
  have zz : FI (wrp .i64 p.days) p.days := fi64 (by omega)
  obtain ⟨q, hq⟩ : ∃ q : Nat, q = 2 ^ dayN at_ := ⟨_, rfl⟩
  have hq0 : (q : Int) ≠ 0 := by have := Nat.pow_pos (n := dayN at_) (show 0 < 2 by omega); omega
  have hq1 : 0 < (q : Int) := by omega
  have z1 : FI (p.days.tdiv q) (p.days / q) := ⟨Int.tdiv_eq_ediv_of_nonneg hd0.1⟩
  have hle : 0 ≤ p.days / (q : Int) ∧ p.days / (q : Int) ≤ p.days := ⟨Int.ediv_nonneg hd0.1 (by omega), Int.ediv_le_self _ hd0.1⟩
  have z2 : FI (wrp .i64 (p.days / q)) (p.days / q) := fi64 (by omega)
  have z3 : FI ((p.days / q).tmod 2) (p.days / q % 2) := ⟨Int.tmod_eq_emod_of_nonneg hle.1⟩
  simp +contextual [m34r0, m34r1, m34r2, m34r3, envOf, z.d1.o, z.d2.o, z.d3.o, z.m1.o, z.m2.o, z.m3.o, zz.o]
  refine vc_call ((bit43 (dayN at_) (by omega)).frame (Cls.cons .int .nil) .int _) ?_
  rw [← hq]
  simp +contextual [m34r4, z1.o, z2.o, z3.o, hq0]
  refine ⟨by omega, fin_bool ?_⟩
  simp [contB, ← hq]

theorem idxP_some {p : Pr → Bool} {l : List Pr} {k : Nat} (h : k < l.length) (hk : p l[k] = true) (hb : (l.take k).any p = false) : idxP p l = k := by
  have : l.findIdx? p = some k := by
    rw [List.findIdx?_eq_some_iff_getElem]
    refine ⟨h, hk, fun j hj => ?_⟩
    rw [List.any_eq_false] at hb
    exact hb _ (List.mem_take_iff_getElem.2 ⟨j, by omega, rfl⟩)
  simp [idxP, this]
theorem idxP_none {p : Pr → Bool} {l : List Pr} (hb : l.any p = false) : idxP p l = -1 := by
  have : l.findIdx? p = none := by
    rw [List.findIdx?_eq_none_iff]
    rw [List.any_eq_false] at hb
    exact fun x hx => by simpa using hb x hx
  simp [idxP, this]
theorem idxP_pos {p : Pr → Bool} {l : List Pr} : decide (0 ≤ idxP p l) = l.any p := by
  by_cases h : l.any p = true
  · rw [h, decide_eq_true_eq]
    unfold idxP
    split
    · omega
    · rename_i h2
      rw [List.findIdx?_eq_none_iff] at h2
      rw [List.any_eq_true] at h
      obtain ⟨x, hx, hp⟩ := h
      rw [h2 x hx] at hp
      cases hp
  · have h : l.any p = false := by simpa using h
    rw [h, idxP_none h]; rfl
theorem idxP_lt {p : Pr → Bool} {l : List Pr} (h : l.any p = true) : ∃ k : Nat, idxP p l = k ∧ k < l.length := by
  unfold idxP
  split
  · rename_i i hi
    rw [List.findIdx?_eq_some_iff_getElem] at hi
    exact ⟨i, rfl, hi.1⟩
  · rename_i h2
    rw [List.findIdx?_eq_none_iff] at h2
    rw [List.any_eq_true] at h
    obtain ⟨x, hx, hp⟩ := h
    rw [h2 x hx] at hp
    cases hp

def IdxI (F : AV) (p : Pr → Bool) (ps : List Pr) (H0 : Heap) (m : Nat) (σ : Env) (H : Heap) : Prop := ∃ k : Nat, m = ps.length - k ∧ k ≤ ps.length ∧ (ps.take k).any p = false ∧ H = H0 ∧ σ = [(0, .islice (prRows ps)), (1, F), (7, .int .i64 (ps.length : Nat)), (8, .int .i64 k)]

theorem idx38 {H : Heap} {ps : List Pr} {f : Nat} {cap : List AV} {p : Pr → Bool} (hl : ps.length ≤ 1000000) (hF : ∀ b ∈ ps, Spec Tryd.prog f ([.agg b.row] ++ cap) H (.bool (p b)) H) :
    Spec Tryd.prog 38 [.islice (prRows ps), .func f [] cap] H (.int .i64 (idxP p ps)) H := by
  refine spec_of_wp (C := Spec Tryd.prog) (fun _ _ _ _ _ h => h) mixed m38_ok (show 2 ≤ _ by decide) ?_
  unfold m38
  simp [m38r0, m38r1, envOf]
  refine vc_loop (IdxI (.func f [] cap) p ps H) ps.length ⟨0, rfl, by omega, by simp, rfl, rfl⟩ ?_
  rintro m σ H1 ⟨k, rfl, hk, hall, rfl, rfl⟩
  by_cases hlt : k < ps.length
  · have hlt2 : (k : Int) < ps.length := by omega
    have z : FI (wrp .i64 ((k : Int) + 1)) (k + 1) := fi64 (by omega)
    simp [m38l7, m38r2, m38r3, m38r4, hlt, hlt2, iaddr_is]
    refine ⟨(hF ps[k] (List.getElem_mem hlt)).ne0 m38_ok, vc_call (hF ps[k] (List.getElem_mem hlt)) ?_⟩
    simp
    refine ⟨fun hp => ?_, fun hp => ?_⟩
    · simp [m38r5]
      refine fin_of ?_
      rw [idxP_some hlt hp hall]
    · simp [m38r6, z.o]
      refine ⟨ps.length - (k + 1), Nat.sub_succ_lt_self _ _ hlt, k + 1, rfl, hlt, ?_, rfl, rfl⟩
      rw [List.take_succ_eq_append_getElem hlt, List.any_append, hall]
      simp [hp]
  · have hk2 : k = ps.length := by omega
    subst hk2
    simp [m38l7, m38r2, m38r8]
    rw [List.take_length] at hall
    refine fin_of ?_
    rw [idxP_none hall]

theorem bad45 (ps : List Pr) (hl : ps.length ≤ 1000000) : Spec Tryd.prog 45 [.islice (prRows ps), .func 46 [] []] [] (.bool (ps.any fun p => !priceB p)) [] := by
  refine spec_of_wp (C := Spec Tryd.prog) (fun _ _ _ _ _ h => h) mixed m45_ok (show 2 ≤ _ by decide) ?_
  unfold m45
  simp [m45r0, m45r1, envOf]
  refine vc_call (idx38 (p := fun p => !priceB p) hl fun b _ => (banded46 b).frame (Cls.cons (cl_pr b) .nil) .bool _) ?_
  simp
  exact fin_of (by rw [idxP_pos])

/-- The closure of priceAt: the moment lies in a block. -/
theorem clos39 (p : Pr) (hp : PrOk p) (at_ : Int) (h0 : 0 ≤ at_) (h1 : at_ < 9223372036854775808) {H : Heap} {r : Nat} (hr : H[r]? = some (.rows 0 1 [[.int .i64 at_]])) : Spec Tryd.prog 39 [.agg p.row, .ptr r 0 0 0] H (.bool (contB at_ p)) H := by
  refine spec_of_wp (C := Spec Tryd.prog) (fun _ _ _ _ _ h => h) mixed m39_ok (show 2 ≤ _ by decide) ?_
  unfold m39
  have hlt : r < H.length := (List.getElem?_eq_some_iff.1 hr).1
  have e : ∀ N, (H ++ N)[r]? = some (.rows 0 1 [[.int .i64 at_]]) := fun N => by rw [List.getElem?_append_left hlt]; exact hr
  simp [m39r0, m39r1, envOf, Pr.row, row_of (e _)]
  refine vc_call ((cont40 p hp at_ h0 h1).frame (Cls.cons (Cls.cons .int (Cls.cons .int (Cls.cons .int .nil))).agg (Cls.cons .int .nil)) .bool _) ?_
  simp
  exact fin_bool_tmp rfl

theorem price29 (r : Rt) (hr : RtOk r) (hl : r.ps.length ≤ 1000000) (at_ : Int) (h0 : 0 ≤ at_) (h1 : at_ < 9223372036854775808) : Spec Tryd.prog 29 [.agg r.row, .int .i64 at_] [] (.int .i64 (idxP (contB at_) r.ps)) [] := by
  refine spec_of_wp (C := Spec Tryd.prog) (fun _ _ _ _ _ h => h) mixed m29_ok (show 2 ≤ _ by decide) ?_
  unfold m29
  simp [m29r0, m29r1, envOf, Rt.row]
  refine vc_call (idx38 (p := contB at_) hl fun b hb => clos39 b (hr.ps b hb) at_ h0 h1 rfl) ?_
  simp
  exact fin_int rfl
end Go.Ab.Tryd.S
