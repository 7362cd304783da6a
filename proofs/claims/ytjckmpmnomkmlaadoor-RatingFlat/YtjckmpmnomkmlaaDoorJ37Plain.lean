/- Cost: the loop over the pieces. Conditions: none. -/
import Derived.Test.YtjckmpmnomkmlaaDoorJ37Pc2
import Derived.Test.YtjckmpmnomkmlaaDoorAbVcR
namespace Go.Ab.Tryd.S
open Go.Proofs

def priceO (r : Rt) (at_ : Int) : Pr := (r.ps[(idxP (contB at_) r.ps).toNat]?).getD ⟨0, 0, 0, 0, 0⟩
def termF (r : Rt) (free fr : Int) (k : Nat) : Int := if k = 0 then (priceO r (fr + 1000 * begF r free k)).fi else (priceO r (fr + 1000 * begF r free k)).st
def costK (r : Rt) (free fr : Int) : Nat → Int
  | 0 => r.con
  | k + 1 => costK r free fr k + termF r free fr k

theorem price_at {r : Rt} (h : rateB r = true) (at_ : Int) : ∃ (i : Nat) (h : i < r.ps.length), idxP (contB at_) r.ps = i ∧ priceO r at_ = r.ps[i] := by
  obtain ⟨i, h1, h2⟩ := idxP_lt (any_cont h at_)
  refine ⟨i, h2, h1, ?_⟩
  unfold priceO
  rw [h1, Int.toNat_natCast, List.getElem?_eq_getElem h2]
  rfl
theorem price_rng {r : Rt} (h : rateB r = true) (at_ : Int) : (0 ≤ (priceO r at_).fi ∧ (priceO r at_).fi ≤ 1000000000) ∧ (0 ≤ (priceO r at_).st ∧ (priceO r at_).st ≤ 1000000000) := by
  obtain ⟨i, h1, _, h3⟩ := price_at h at_
  rw [h3]
  have := (rate_parts h).2.2.2.2.1 _ (List.getElem_mem h1)
  unfold priceB money at this
  simp only [Bool.and_eq_true, decide_eq_true_eq] at this
  exact ⟨this.1.2, this.2⟩
theorem term_rng {r : Rt} (h : rateB r = true) (free fr : Int) (k : Nat) : 0 ≤ termF r free fr k ∧ termF r free fr k ≤ 1000000000 := by
  unfold termF
  have := price_rng h (fr + 1000 * begF r free k)
  split
  · exact this.1
  · exact this.2
theorem cost_rng {r : Rt} (h : rateB r = true) (free fr : Int) : ∀ k, 0 ≤ costK r free fr k ∧ costK r free fr k ≤ 1000000000 * ((k : Int) + 1)
  | 0 => by
    have := (rate_parts h).1
    simp only [costK]; omega
  | k + 1 => by
    have h1 := cost_rng h free fr k
    have h2 := term_rng h free fr k
    simp only [costK]; omega

/-- The blocks ahead of the loop's record. -/
def HH (t : Tf) (r : Rt) (fr n c : Int) (N : Heap) : Heap := .rows 0 2 [t.row] :: .rows 0 1 [[.int .i64 fr]] :: .rows 0 5 [r.row] :: .rows 0 1 [[.int .i64 c]] :: .rows 0 5 [r.row] :: .rows 0 1 [[.int .i64 t.free]] :: .rows 0 1 [[.int .i64 n]] :: N
theorem HH_len {t : Tf} {r : Rt} {fr n c : Int} {N : Heap} : (HH t r fr n c N).length = N.length + 7 := rfl
theorem HH_at {t : Tf} {r : Rt} {fr n c : Int} {b : ABlk} {N : Heap} : (HH t r fr n c (b :: N))[7]? = some b := rfl
theorem HH_set {t : Tf} {r : Rt} {fr n c : Int} {b b' : ABlk} {N : Heap} : (HH t r fr n c (b :: N)).set 7 b' = HH t r fr n c (b' :: N) := rfl
def K12 : Env := [(4, .ptr 0 0 0 0), (6, .ptr 1 0 0 0), (11, .ptr 2 0 0 0), (13, .ptr 3 0 0 0)]

/-- One round of the loop. -/
theorem round12 {t : Tf} {r : Rt} (hr : RtOk r) (hv : rateB r = true) (hf : 0 ≤ t.free ∧ t.free ≤ 3600) {fr n : Int} (hfr : 0 ≤ fr ∧ fr ≤ 281474976710656) {k : Nat} (hk : (k : Int) < 1000000) (hb : begF r t.free k < 1000000) {L : Loop} {N : Heap} {K : AV → Heap → Prop}
    (h : ∀ N', K (.bool true) (HH t r fr n (costK r t.free fr (k + 1)) (lrecS K12 L .ready none :: N'))) :
    callK (yieldC (Spec Tryd.prog) 7 (roundR (Spec Tryd.prog) 7 [56] (.region m12r20 [4, 6, 11, 13, 14]) m12b26 K12 L)) 0 [.yld 7, .int .i64 (begF r t.free k)] (HH t r fr n (costK r t.free fr k) (lrecS K12 L .ready none :: N)) K := by
  obtain ⟨_, h1, h2, h3, _, _⟩ := rate_parts hv
  have hge := begF_ge (r := r) (free := t.free) h1.1 h2.1 hf.1 k
  obtain ⟨i, hi, hi1, hi2⟩ := price_at hv (fr + 1000 * begF r t.free k)
  have hcr := cost_rng hv t.free fr k
  have htr := term_rng hv t.free fr k
  have hi3 : (i : Int) < r.ps.length := by omega
  have z1 : FI (wrp .i64 (1000 * begF r t.free k)) (1000 * begF r t.free k) := fi64 (by omega)
  have z2 : FI (wrp .i64 (fr + 1000 * begF r t.free k)) (fr + 1000 * begF r t.free k) := fi64 (by omega)
  have z3 : FI (wrp .i64 (costK r t.free fr k + termF r t.free fr k)) (costK r t.free fr (k + 1)) := fi64 (by omega)
  have hte : begF r t.free k = t.free ↔ k = 0 := by
    constructor
    · intro he
      by_cases h0 : k = 0
      · exact h0
      · have := begF_lt (r := r) (free := t.free) h1.1 h2.1 (show 0 < k by omega)
        rw [he, show begF r t.free 0 = t.free by simp [begF]] at this
        omega
    · rintro rfl; simp [begF]
  obtain ⟨p, hp⟩ : ∃ p, p = r.ps[i] := ⟨_, rfl⟩
  rw [← hp] at hi2
  have hterm : termF r t.free fr k = if k = 0 then p.fi else p.st := by simp only [termF, hi2]
  refine vc_next (HH t r fr n (costK r t.free fr (k + 1)) (lrecS K12 L .ready none :: (N ++ [.rows 0 5 [p.row]]))) rfl rfl ?_ (h _)
  simp [m12r20, K12, putAll]
  refine ⟨rfl, ?_⟩
  rw [HH_set]
  have hlen : ∀ {N : Heap} {c : Int}, (HH t r fr n c N).length = N.length + 7 := rfl
  unfold HH m12b26
  simp [m12r21, Rt.row, z1.o, z2.o]
  refine vc_call ((price29 r hr (by omega) (fr + 1000 * begF r t.free k) (by omega) (by omega)).frame (Cls.cons (cl_rt _) (Cls.cons .int .nil)) .int _) ?_
  rw [hi1]
  simp [iaddr_is, hi, hi3, ← hp, m12r22, m12r23, Tf.row, Pr.row]
  refine ⟨⟨_, rfl⟩, ?_⟩
  simp
  have hps : begF r t.free k = t.free ∨ ¬ begF r t.free k = t.free := Classical.em _
  rcases hps with he | he
  · have h0 := hte.1 he
    rw [hterm, if_pos h0] at z3
    simp [he, m12r24, z3.o]
  · have h0 : ¬ k = 0 := fun h => he (hte.2 h)
    rw [hterm, if_neg h0] at z3
    simp [he, m12r25, z3.o]

def R12 (t : Tf) (r : Rt) (fr : Int) (n : Nat) (L : Loop) (m : Nat) (σ : Env) (H : Heap) : Prop := ∃ (k : Nat) (N : Heap), m = n - k ∧ k ≤ n ∧ H = HH t r fr n (costK r t.free fr k) (lrecS K12 L .ready none :: N) ∧
  σ = [(0, .yld 7), (2, .ptr 4 0 0 0), (5, .int .i64 (begF r t.free k)), (6, .int .i64 (if k = 0 then r.fi else r.st)), (10, .int .i64 n), (11, .int .i64 k)]

theorem range12 {t : Tf} {r : Rt} (hr : RtOk r) (hv : rateB r = true) (hf : 0 ≤ t.free ∧ t.free ≤ 3600) {fr : Int} (hfr : 0 ≤ fr ∧ fr ≤ 281474976710656) {n : Nat} (hn : n ≤ 1000000) (hb : ∀ k, k < n → begF r t.free k < 1000000) {σ : Env} {base : Heap} {Q : Ex → Env → Heap → Prop}
    (hσ : σ.get 55 = .func 37 [] [.ptr 5 0 0 0, .ptr 4 0 0 0, .ptr 6 0 0 0]) (hk : σ.keep [4, 6, 11, 13] = K12) (h : ∀ N, Q .normal K12 (HH t r fr n (costK r t.free fr n) N)) :
    wpC (Spec Tryd.prog) base (.rangef (.tmp 55) [56] (.region m12r20 [4, 6, 11, 13, 14]) m12b26 37 23 m12i38 [4, 6, 11, 13]) σ (HH t r fr n r.con []) Q := by
  obtain ⟨_, h1, h2, _, _, _⟩ := rate_parts hv
  refine vc_rangef (first := []) (cap := [.ptr 5 0 0 0, .ptr 4 0 0 0, .ptr 6 0 0 0]) (by simp [hσ]) (by decide) fun L => ?_
  rw [hk]
  have e7 : (HH t r fr n r.con []).length = 7 := rfl
  have eh : HH t r fr n r.con [] ++ [lrecS K12 L .ready none] = HH t r fr n (costK r t.free fr 0) (lrecS K12 L .ready none :: []) := rfl
  rw [e7, eh]
  unfold m12i38
  generalize hY : yieldC (Spec Tryd.prog) 7 (roundR (Spec Tryd.prog) 7 [56] (.region m12r20 [4, 6, 11, 13, 14]) m12b26 K12 L) = CY
  have hrow : ∀ c N, Heap.row (HH t r fr n c N) 5 0 0 = some [.int .i64 t.free] := fun c N => rfl
  have hrow4 : ∀ c N, Heap.row (HH t r fr n c N) 4 0 0 = some r.row := fun c N => rfl
  have hrow6 : ∀ c N, Heap.row (HH t r fr n c N) 6 0 0 = some [.int .i64 (n : Int)] := fun c N => rfl
  have er : r.row = [.str r.pre, .int .i64 r.con, .int .i64 r.fi, .int .i64 r.st, .islice (prRows r.ps)] := rfl
  rw [er] at hrow4
  simp [m12r27, m12r28, m12r29, m12r30, m12r31, envOf, hrow, hrow4, hrow6]
  refine vc_loop (R12 t r fr n L) n ⟨0, [], rfl, by omega, rfl, by simp [begF]⟩ ?_
  rintro m σ H ⟨k, N, rfl, hkn, rfl, rfl⟩
  by_cases hlt : k < n
  · have hlt2 : (k : Int) < n := by omega
    have hge := begF_ge (r := r) (free := t.free) h1.1 h2.1 hf.1 k
    have hbk := hb k hlt
    have hs := begF_step (r := r) (free := t.free) k
    have hl : 1 ≤ (if k = 0 then r.fi else r.st) ∧ (if k = 0 then r.fi else r.st) ≤ 3600 := by split <;> omega
    generalize (if k = 0 then r.fi else r.st) = len at hs hl
    have z : FI (wrp .i64 ((k : Int) + 1)) (k + 1) := fi64 (by omega)
    have z2 : FI (wrp .i64 (begF r t.free k + len)) (begF r t.free (k + 1)) := ⟨by rw [wrp_i64 (by omega), hs]⟩
    simp [m12l37, m12r32, hlt, hlt2, Nat.not_le.2 hlt, m12r33]
    rw [← hY]
    refine round12 hr hv hf hfr (by omega) hbk fun N' => ?_
    rw [hY]
    simp [m12r34, m12r35, m12r36, hrow4, z.o, z2.o]
    exact ⟨n - (k + 1), Nat.sub_succ_lt_self _ _ hlt, k + 1, N', rfl, hlt, rfl, by rw [if_neg (by omega : ¬ k + 1 = 0)]; rfl⟩
  · have hk2 : k = n := by omega
    subst hk2
    simp [m12l37, m12r32]
    exact ⟨.inl rfl, .normal, .ready, by simp, rfl, h _⟩
end Go.Ab.Tryd.S

/- Cost, by the program and by the document. Conditions: none. -/
namespace Go.Ab.Tryd.S
open Go.Proofs

theorem secs_rng {a b : Int} (h : spanB a b = true) (h2 : ¬ 1000000 < secsF a b) : (0 ≤ a ∧ a ≤ 281474976710656) ∧ (0 ≤ secsF a b ∧ secsF a b ≤ 1000000) := by
  have e : secsF a b = (b - a + 999) / 1000 := by simp [secsF, h]
  unfold spanB at h
  simp only [Bool.and_eq_true, decide_eq_true_eq] at h
  omega
theorem valid_parts {t : Tf} (h : validB t = true) : (0 ≤ t.free ∧ t.free ≤ 3600) ∧ ∀ r ∈ t.rs, rateB r = true := by
  refine ⟨?_, valid_rate h⟩
  unfold validB at h
  simp only [Bool.and_eq_true, decide_eq_true_eq] at h
  exact ⟨h.1.1.2, h.1.2⟩
theorem find_at (num : List UInt8) (l : List Rt) (h : ¬ findF num l < 0) : ∃ (i : Nat) (h : i < l.length), findF num l = i ∧ hitB num l i = true ∧ (∀ j, hitB num l j = true → preL l j ≤ preL l i) := by
  rcases findP_best num l l.length with ⟨h1, _⟩ | ⟨i, h1, h2, h3, h4, _⟩
  · unfold findF at h; omega
  · exact ⟨i, h2, h1, h3, fun j hj => h4 j (hit_lt hj) hj⟩

/-- What a call costs that a rate is found for. -/
def costT (t : Tf) (r : Rt) (fr to : Int) : Int := if piecesF r t.free (secsF fr to) = 0 then 0 else costK r t.free fr (piecesF r t.free (secsF fr to)).toNat
def costV (t : Tf) (num : List UInt8) (fr to : Int) : Int × Int :=
  if validB t = true then (if spanB fr to = true then (if 1000000 < secsF fr to then (0, 4) else if findF num t.rs < 0 then (0, 8) else match t.rs[(findF num t.rs).toNat]? with
    | some r => (costT t r fr to, 0)
    | none => (0, 8)) else (0, 3)) else (0, 2)
def costA (c : Int × Int) : AV := .tup [.int .i64 c.1, .int .u8 c.2]
theorem costV_1 {t : Tf} {num : List UInt8} {fr to : Int} (h : validB t = false) : costV t num fr to = (0, 2) := by unfold costV; rw [if_neg (by simp [h])]
theorem costV_2 {t : Tf} {num : List UInt8} {fr to : Int} (h : validB t = true) (h2 : spanB fr to = false) : costV t num fr to = (0, 3) := by unfold costV; rw [if_pos h, if_neg (by simp [h2])]
theorem costV_3 {t : Tf} {num : List UInt8} {fr to : Int} (h : validB t = true) (h2 : spanB fr to = true) (h3 : 1000000 < secsF fr to) : costV t num fr to = (0, 4) := by unfold costV; rw [if_pos h, if_pos h2, if_pos h3]
theorem costV_4 {t : Tf} {num : List UInt8} {fr to : Int} (h : validB t = true) (h2 : spanB fr to = true) (h3 : ¬ 1000000 < secsF fr to) (h4 : findF num t.rs < 0) : costV t num fr to = (0, 8) := by unfold costV; rw [if_pos h, if_pos h2, if_neg h3, if_pos h4]
theorem costV_5 {t : Tf} {num : List UInt8} {fr to : Int} (h : validB t = true) (h2 : spanB fr to = true) (h3 : ¬ 1000000 < secsF fr to) {i : Nat} (h4 : findF num t.rs = i) {r : Rt} (hi : t.rs[i]? = some r) : costV t num fr to = (costT t r fr to, 0) := by
  unfold costV; rw [if_pos h, if_pos h2, if_neg h3, if_neg (by omega), h4, Int.toNat_natCast, hi]

theorem fin_cost {H : Heap} {x y : Int} {c : Int × Int} (h : c = (x, y)) : Fin [] (.tup [.int .i64 x, .int .u8 y]) H (costA c) [] := by
  subst h
  exact fin_drop (.refl (Cls.cons .int (Cls.cons .int .nil)).tup)

theorem begins28 (r : Rt) (free n : Int) (H : Heap) : Spec Tryd.prog 28 [.agg r.row, .int .i64 free, .int .i64 n] H (.func 37 [] [.ptr (H.length + 1) 0 0 0, .ptr H.length 0 0 0, .ptr (H.length + 2) 0 0 0]) (H ++ [.rows 0 5 [r.row], .rows 0 1 [[.int .i64 free]], .rows 0 1 [[.int .i64 n]]]) := by
  refine spec_of_wp (C := Spec Tryd.prog) (fun _ _ _ _ _ h => h) mixed m28_ok (show 3 ≤ _ by decide) ?_
  unfold m28
  simp [m28r0, m28r1, envOf]
  exact fin_of rfl

theorem cost12 (t : Tf) (ht : TfOk t) (hs : Sm t) (num : List UInt8) (fr to : Int) : Spec Tryd.prog 12 [.agg t.row, .str num, .int .i64 fr, .int .i64 to] [] (costA (costV t num fr to)) [] := by
  refine spec_of_wp (C := Spec Tryd.prog) (fun _ _ _ _ _ h => h) mixed m12_ok (show 4 ≤ _ by decide) ?_
  unfold m12
  have hn := hs.n
  simp [m12r0, envOf, m12r1]
  refine vc_call ((valid24 t hs).frame (Cls.cons (cl_tf _) .nil) .bool _) ?_
  simp
  refine ⟨fun hv => ?_, fun hv => ?_⟩
  · simp [m12r2]
    exact fin_cost (costV_1 hv)
  simp [m12r3]
  refine vc_call ((span25 fr to).frame (Cls.cons .int (Cls.cons .int .nil)) .bool _) ?_
  simp
  refine ⟨fun h2 => ?_, fun h2 => ?_⟩
  · simp [m12r4]
    exact fin_cost (costV_2 hv h2)
  simp [m12r5]
  refine vc_call ((secs18 fr to).frame (Cls.cons .int (Cls.cons .int .nil)) .int _) ?_
  simp
  refine ⟨fun h3 => ?_, fun h3 => ?_⟩
  · simp [m12r6]
    exact fin_cost (costV_3 hv h2 h3)
  have h3 : ¬ 1000000 < secsF fr to := by omega
  obtain ⟨hfr, hsec⟩ := secs_rng h2 h3
  obtain ⟨hf, hrates⟩ := valid_parts hv
  simp [m12r7]
  refine vc_call ((find26 t hs num).frame (Cls.cons (cl_tf _) (Cls.cons .str .nil)) .int _) ?_
  simp [m12r8]
  refine ⟨fun h4 => ?_, fun h4 => ?_⟩
  · simp [m12r9]
    exact fin_cost (costV_4 hv h2 h3 h4)
  obtain ⟨i, hi, he, _⟩ := find_at num t.rs (by omega)
  have hi2 : (i : Int) < t.rs.length := by omega
  obtain ⟨r, hr⟩ : ∃ r, r = t.rs[i] := ⟨_, rfl⟩
  have hmem : r ∈ t.rs := by rw [hr]; exact List.getElem_mem hi
  have hV := costV_5 (num := num) hv h2 h3 he (r := r) (by rw [List.getElem?_eq_getElem hi, hr])
  have hrok := ht.rs r hmem
  have hrv := hrates r hmem
  obtain ⟨_, p1, p2, p3, _⟩ := rate_parts hrv
  rw [he]
  simp [m12r10, Tf.row, iaddr_is, hi, hi2, ← hr, Rt.row, m12r11, m12r13, m12r14, m12r15, m12r12]
  refine vc_call ((secs18 fr to).frame (Cls.cons .int (Cls.cons .int .nil)) .int _) ?_
  simp
  refine vc_call ((pieces27 r p1 p2 t.free (secsF fr to) hf hsec).frame (Cls.cons (cl_rt _) (Cls.cons .int (Cls.cons .int .nil))) .int _) ?_
  simp [m12r16]
  refine ⟨fun h5 => ?_, fun h5 => ?_⟩
  · simp [m12r17]
    exact fin_cost (by rw [hV, costT, if_pos h5])
  obtain ⟨n, hnn⟩ : ∃ n : Nat, piecesF r t.free (secsF fr to) = n := ⟨(piecesF r t.free (secsF fr to)).toNat, by have := pieces_ge (r := r) (free := t.free) (s := secsF fr to) p2.1; omega⟩
  have hbeg : ∀ k, k < n → begF r t.free k < 1000000 := fun k hk => by
    have := begF_pieces (r := r) (free := t.free) (s := secsF fr to) p1.1 p2.1 (k := k) (by omega)
    omega
  have hn1 : n ≤ 1000000 := by
    rcases Nat.lt_or_ge 1000000 n with h | h
    · have h1 := hbeg 1000000 h
      have := begF_ge (r := r) (free := t.free) p1.1 p2.1 hf.1 1000000
      omega
    · exact h
  have hcost : costV t num fr to = (costK r t.free fr n, 0) := by rw [hV, costT, if_neg h5, hnn, Int.toNat_natCast]
  rw [hnn, hcost]
  simp [m12r18, m12r19]
  refine vc_call (begins28 r t.free n _) ?_
  simp
  refine range12 (t := t) hrok hrv hf hfr hn1 hbeg rfl rfl fun N => ?_
  unfold HH
  simp [K12, m12r39]
  exact fin_cost rfl

theorem cl_price (r : Rt) (at_ : Int) : Cl 0 (priceR r at_) := by
  unfold priceR
  split
  · exact (Cls.cons .int (Cls.cons .bool .nil)).tup
  · exact (Cls.cons .int (Cls.cons .bool .nil)).tup
theorem cl_find (t : Tf) (num : List UInt8) : Cl 0 (findR t num) := by
  unfold findR
  split
  · exact (Cls.cons .int (Cls.cons .bool .nil)).tup
  · exact (Cls.cons .int (Cls.cons .bool .nil)).tup

def L13 (t : Tf) (r : Rt) (fr : Int) (n : Nat) (m : Nat) (σ : Env) (H : Heap) : Prop := ∃ k : Nat, m = n - k ∧ k ≤ n ∧ H = [.rows 0 2 [t.row], .rows 0 5 [r.row]] ∧
  σ = [(2, .int .i64 fr), (4, .ptr 0 0 0 0), (12, .ptr 1 0 0 0), (13, .int .i64 n), (14, .int .i64 (costK r t.free fr k)), (15, .int .i64 k)]

theorem cost13 (t : Tf) (ht : TfOk t) (hs : Sm t) (num : List UInt8) (fr to : Int) : Spec Tryd.prog 13 [.agg t.row, .str num, .int .i64 fr, .int .i64 to] [] (costA (costV t num fr to)) [] := by
  refine spec_of_wp (C := Spec Tryd.prog) (fun _ _ _ _ _ h => h) mixed m13_ok (show 4 ≤ _ by decide) ?_
  unfold m13
  have hn := hs.n
  simp [m13r0, envOf, m13r1]
  refine vc_call ((valid14 t hs).frame (Cls.cons (cl_tf _) .nil) .bool _) ?_
  simp
  refine ⟨fun hv => ?_, fun hv => ?_⟩
  · simp [m13r2]
    exact fin_cost (costV_1 hv)
  simp [m13r3]
  refine vc_call ((span30 fr to).frame (Cls.cons .int (Cls.cons .int .nil)) .bool _) ?_
  simp
  refine ⟨fun h2 => ?_, fun h2 => ?_⟩
  · simp [m13r4]
    exact fin_cost (costV_2 hv h2)
  simp [m13r5]
  refine vc_call ((secs19 fr to).frame (Cls.cons .int (Cls.cons .int .nil)) .int _) ?_
  simp
  refine ⟨fun h3 => ?_, fun h3 => ?_⟩
  · simp [m13r6]
    exact fin_cost (costV_3 hv h2 h3)
  have h3 : ¬ 1000000 < secsF fr to := by omega
  obtain ⟨hfr, hsec⟩ := secs_rng h2 h3
  obtain ⟨hf, hrates⟩ := valid_parts hv
  simp [m13r7]
  refine vc_call ((find15 t hs num).frame (Cls.cons (cl_tf _) (Cls.cons .str .nil)) (cl_find _ _) _) ?_
  rw [findR, if_pos hv]
  simp [m13r8]
  refine ⟨fun h4 => ?_, fun h4 => ?_⟩
  · simp [m13r9]
    exact fin_cost (costV_4 hv h2 h3 h4)
  obtain ⟨i, hi, he, _⟩ := find_at num t.rs (by omega)
  have hi2 : (i : Int) < t.rs.length := by omega
  obtain ⟨r, hr⟩ : ∃ r, r = t.rs[i] := ⟨_, rfl⟩
  have hmem : r ∈ t.rs := by rw [hr]; exact List.getElem_mem hi
  have hV := costV_5 (num := num) hv h2 h3 he (r := r) (by rw [List.getElem?_eq_getElem hi, hr])
  have hrok := ht.rs r hmem
  have hrv := hrates r hmem
  have hsm := hs.r r hmem
  obtain ⟨_, p1, p2, p3, _⟩ := rate_parts hrv
  have hmax : max (i : Int) 0 = i := by omega
  rw [he, hmax]
  simp [m13r10, Tf.row, iaddr_is, hi, hi2, ← hr, Rt.row, m13r11, m13r13, m13r14, m13r15, m13r12]
  refine vc_call ((secs19 fr to).frame (Cls.cons .int (Cls.cons .int .nil)) .int _) ?_
  simp
  refine vc_call ((pieces21 r hsm.1 hsm.2 t.free (secsF fr to)).frame (Cls.cons (cl_rt _) (Cls.cons .int (Cls.cons .int .nil))) .int _) ?_
  have hpr : piecesR r t.free (secsF fr to) = piecesF r t.free (secsF fr to) := by
    unfold piecesR pargB
    rw [if_neg]
    simp [hrv]
    omega
  rw [hpr]
  simp [m13r16]
  refine ⟨fun h5 => ?_, fun h5 => ?_⟩
  · simp [m13r17]
    exact fin_cost (by rw [hV, costT, if_pos h5])
  obtain ⟨n, hnn⟩ : ∃ n : Nat, piecesF r t.free (secsF fr to) = n := ⟨(piecesF r t.free (secsF fr to)).toNat, by have := pieces_ge (r := r) (free := t.free) (s := secsF fr to) p2.1; omega⟩
  have hbeg : ∀ k, k < n → begF r t.free k < 1000000 := fun k hk => by
    have := begF_pieces (r := r) (free := t.free) (s := secsF fr to) p1.1 p2.1 (k := k) (by omega)
    omega
  have hn1 : n ≤ 1000000 := by
    rcases Nat.lt_or_ge 1000000 n with h | h
    · have h1 := hbeg 1000000 h
      have := begF_ge (r := r) (free := t.free) p1.1 p2.1 hf.1 1000000
      omega
    · exact h
  have hcost : costV t num fr to = (costK r t.free fr n, 0) := by rw [hV, costT, if_neg h5, hnn, Int.toNat_natCast]
  rw [hnn, hcost]
  simp [m13r18, m13r19]
  refine vc_loop (L13 t r fr n) n ⟨0, rfl, by omega, rfl, rfl⟩ ?_
  rintro m σ H ⟨k, rfl, hk, rfl, rfl⟩
  by_cases hlt : k < n
  · have hlt2 : (k : Int) < n := by omega
    have hbk := hbeg k hlt
    have hge := begF_ge (r := r) (free := t.free) p1.1 p2.1 hf.1 k
    obtain ⟨q, hq, hq1, hq2⟩ := price_at hrv (fr + 1000 * begF r t.free k)
    have hq3 : (q : Int) < r.ps.length := by omega
    have hcr := cost_rng hrv t.free fr k
    have htr := term_rng hrv t.free fr k
    have z0 : FI (wrp .i64 ((k : Int) + 1)) (k + 1) := fi64 (by omega)
    have z1 : FI (wrp .i64 (1000 * begF r t.free k)) (1000 * begF r t.free k) := fi64 (by omega)
    have z2 : FI (wrp .i64 (fr + 1000 * begF r t.free k)) (fr + 1000 * begF r t.free k) := fi64 (by omega)
    have z3 : FI (wrp .i64 (costK r t.free fr k + termF r t.free fr k)) (costK r t.free fr (k + 1)) := fi64 (by omega)
    have hpr2 : priceR r (fr + 1000 * begF r t.free k) = .tup [.int .i64 q, .bool true] := by
      unfold priceR atB
      rw [if_neg, hq1]
      simp [hrv]
      omega
    obtain ⟨p, hp⟩ : ∃ p, p = r.ps[q] := ⟨_, rfl⟩
    rw [← hp] at hq2
    have hterm : termF r t.free fr k = if k = 0 then p.fi else p.st := by simp only [termF, hq2]
    simp [m13l27, m13r20, hlt, hlt2, Nat.not_le.2 hlt, m13r21, Tf.row]
    refine vc_call ((begin31 r p1 p2 t.free hf k (by omega)).frame (Cls.cons (cl_rt _) (Cls.cons .int (Cls.cons .int .nil))) .int _) ?_
    simp [z1.o, z2.o]
    refine vc_call ((price16 r hrok hsm.1 hsm.2 (fr + 1000 * begF r t.free k)).frame (Cls.cons (cl_rt _) (Cls.cons .int .nil)) (cl_price _ _) _) ?_
    rw [hpr2]
    simp [m13r22, m13r23]
    refine ⟨fun h0 => ?_, fun h0 => ?_⟩
    · rw [hterm, if_pos h0] at z3
      simp [m13r24, m13r26, Rt.row, iaddr_is, hq, hq3, ← hp, Pr.row, z3.o, z0.o]
      exact ⟨n - (k + 1), Nat.sub_succ_lt_self _ _ hlt, k + 1, rfl, hlt, rfl, rfl⟩
    · rw [hterm, if_neg h0] at z3
      simp [m13r25, m13r26, Rt.row, iaddr_is, hq, hq3, ← hp, Pr.row, z3.o, z0.o]
      exact ⟨n - (k + 1), Nat.sub_succ_lt_self _ _ hlt, k + 1, rfl, hlt, rfl, rfl⟩
  · have hk2 : k = n := by omega
    subst hk2
    simp [m13l27, m13r20, m13r28]
    exact fin_cost rfl
end Go.Ab.Tryd.S

/- What a second more costs; what a call costs by one price. Conditions: none. -/
namespace Go.Ab.Tryd.S
open Go.Proofs

theorem pieces_top {r : Rt} {free s : Int} (h1 : 1 ≤ r.fi) (h2 : 1 ≤ r.st) : s ≤ begF r free (piecesF r free s).toNat := by
  unfold piecesF
  split
  · simp [begF]; omega
  split
  · have e : (1 : Int).toNat = 1 := rfl
    rw [e]
    unfold begF
    rw [if_neg (by omega), show ((1 : Nat) : Int) - 1 = 0 from rfl, Int.zero_mul]; omega
  · have hq : 0 ≤ (s - free - r.fi + r.st - 1) / r.st := Int.ediv_nonneg (by omega) (by omega)
    have hlt := Int.lt_ediv_add_one_mul_self (s - free - r.fi + r.st - 1) (show 0 < r.st by omega)
    generalize (s - free - r.fi + r.st - 1) / r.st = q at *
    unfold begF
    rw [if_neg (by omega)]
    have e : (((1 + q).toNat : Nat) : Int) - 1 = q := by omega
    rw [e]
    have e2 : (q + 1) * r.st = q * r.st + r.st := by rw [Int.add_mul, Int.one_mul]
    omega

theorem pieces_hit {r : Rt} {free n : Int} (h1 : 1 ≤ r.fi) (h2 : 1 ≤ r.st) {m : Nat} (h : begF r free m = n) : piecesF r free n = m ∧ piecesF r free (n + 1) = (m + 1 : Nat) := by
  refine ⟨pieces_eq h1 h2 (by omega) (fun j hj => by have := begF_lt (r := r) (free := free) h1 h2 hj; omega), pieces_eq h1 h2 ?_ ?_⟩
  · have := begF_mono (r := r) (free := free) h1 h2 m; omega
  · intro j hj
    by_cases e : j = m
    · rw [e]; omega
    · have := begF_lt (r := r) (free := free) h1 h2 (show j < m by omega); omega
theorem pieces_miss {r : Rt} {free n : Int} (h1 : 1 ≤ r.fi) (h2 : 1 ≤ r.st) (h : ∀ m, begF r free m ≠ n) : piecesF r free (n + 1) = piecesF r free n := by
  have ht := pieces_top (r := r) (free := free) (s := n) h1 h2
  have h0 := pieces_ge (r := r) (free := free) (s := n) h2
  have hne := h (piecesF r free n).toNat
  have := pieces_eq (r := r) (free := free) (s := n + 1) (n := (piecesF r free n).toNat) h1 h2 (by omega) (fun j hj => by
    have := begF_pieces (r := r) (free := free) (s := n) h1 h2 (k := j) (by omega)
    omega)
  omega

/-- The cost of a call of s seconds. -/
def callF (r : Rt) (free fr s : Int) : Int := if piecesF r free s = 0 then 0 else costK r free fr (piecesF r free s).toNat
def pastB (r : Rt) (free n : Int) : Bool := decide (0 ≤ n - free - r.fi) && decide ((n - free - r.fi) % r.st = 0)
def moreF (r : Rt) (free fr n : Int) : Int := if n = free then r.con + (priceO r (fr + 1000 * n)).fi else if pastB r free n = true then (priceO r (fr + 1000 * n)).st else 0
theorem call_more {r : Rt} (h1 : 1 ≤ r.fi) (h2 : 1 ≤ r.st) (free fr n : Int) : callF r free fr (n + 1) = callF r free fr n + moreF r free fr n := by
  unfold moreF
  by_cases h0 : n = free
  · have hb : begF r free 0 = n := by simp [begF, h0]
    obtain ⟨e1, e2⟩ := pieces_hit h1 h2 hb
    rw [if_pos h0]
    unfold callF
    rw [e1, e2]
    have e3 : ((0 + 1 : Nat) : Int) ≠ 0 := by decide
    rw [if_neg e3, if_pos (show ((0 : Nat) : Int) = 0 from rfl)]
    have e4 : ((0 + 1 : Nat) : Int).toNat = 1 := rfl
    rw [e4]
    simp only [costK, termF, if_true, hb]
    omega
  rw [if_neg h0]
  by_cases hp : pastB r free n = true
  · rw [if_pos hp]
    unfold pastB at hp
    simp only [Bool.and_eq_true, decide_eq_true_eq] at hp
    have hd := Int.emod_add_mul_ediv (n - free - r.fi) r.st
    have hq : 0 ≤ (n - free - r.fi) / r.st := Int.ediv_nonneg hp.1 (by omega)
    rw [hp.2, Int.zero_add] at hd
    obtain ⟨m, hm⟩ : ∃ m : Nat, (n - free - r.fi) / r.st = m := ⟨((n - free - r.fi) / r.st).toNat, by omega⟩
    rw [hm] at hd
    have hb : begF r free (m + 1) = n := by
      unfold begF
      rw [if_neg (by omega), show ((m + 1 : Nat) : Int) - 1 = m by omega, Int.mul_comm]
      omega
    obtain ⟨e1, e2⟩ := pieces_hit h1 h2 hb
    unfold callF
    rw [e1, e2, if_neg (by omega), if_neg (by omega)]
    have e3 : ((m + 1 + 1 : Nat) : Int).toNat = m + 1 + 1 := rfl
    have e4 : ((m + 1 : Nat) : Int).toNat = m + 1 := rfl
    rw [e3, e4]
    show costK r free fr (m + 1) + termF r free fr (m + 1) = _
    unfold termF
    rw [if_neg (by omega), hb]
  · rw [if_neg hp]
    have hmiss : ∀ m, begF r free m ≠ n := by
      intro m hm
      match m with
      | 0 => simp [begF] at hm; exact h0 hm.symm
      | m + 1 =>
        apply hp
        unfold begF at hm
        rw [if_neg (by omega), show ((m + 1 : Nat) : Int) - 1 = m by omega] at hm
        have hmul : 0 ≤ (m : Int) * r.st := Int.mul_nonneg (by omega) (by omega)
        have e : n - free - r.fi = m * r.st := by omega
        unfold pastB
        rw [e, Int.mul_emod_left]
        simp only [Bool.and_eq_true, decide_eq_true_eq]
        exact ⟨hmul, trivial⟩
    unfold callF
    rw [pieces_miss h1 h2 hmiss, Int.add_zero]

/-- One price for all moments. -/
theorem costK_one {r : Rt} {p : Pr} (h : ∀ at_, priceO r at_ = p) (free fr : Int) : ∀ k : Nat, costK r free fr (k + 1) = r.con + p.fi + (k : Int) * p.st
  | 0 => by simp [costK, termF, h]
  | k + 1 => by
    have ih := costK_one h free fr k
    show costK r free fr (k + 1) + termF r free fr (k + 1) = _
    rw [ih]
    unfold termF
    rw [if_neg (by omega), h]
    have : ((k + 1 : Nat) : Int) * p.st = k * p.st + p.st := by rw [Int.natCast_add, Int.add_mul]; simp
    omega
def flatF (r : Rt) (p : Pr) (free n : Int) : Int := if n ≤ free then 0 else if n - free - r.fi ≤ 0 then r.con + p.fi else r.con + p.fi + p.st * ((n - free - r.fi + r.st - 1) / r.st)
theorem call_flat {r : Rt} {p : Pr} (h2 : 1 ≤ r.st) (h : ∀ at_, priceO r at_ = p) (free fr n : Int) : callF r free fr n = flatF r p free n := by
  unfold flatF
  by_cases h0 : n ≤ free
  · have e : piecesF r free n = 0 := by unfold piecesF; rw [if_pos (by omega)]
    unfold callF
    rw [e, if_pos h0, if_pos rfl]
  rw [if_neg h0]
  by_cases h3 : n - free - r.fi ≤ 0
  · have e : piecesF r free n = 1 := by unfold piecesF; rw [if_neg (by omega), if_pos (by omega)]
    unfold callF
    rw [e, if_pos h3, if_neg (by decide)]
    have := costK_one h free fr 0
    have e : (1 : Int).toNat = 0 + 1 := rfl
    rw [e, this]
    simp
  · have e : piecesF r free n = 1 + (n - free - r.fi + r.st - 1) / r.st := by unfold piecesF; rw [if_neg (by omega), if_neg (by omega)]
    have hq : 0 ≤ (n - free - r.fi + r.st - 1) / r.st := Int.ediv_nonneg (by omega) (by omega)
    unfold callF
    rw [e, if_neg h3]
    generalize (n - free - r.fi + r.st - 1) / r.st = q at *
    rw [if_neg (by omega)]
    obtain ⟨m, rfl⟩ : ∃ m : Nat, q = m := ⟨q.toNat, by omega⟩
    have e : (1 + (m : Int)).toNat = m + 1 := by omega
    rw [e, costK_one h, Int.mul_comm]
theorem costT_call (t : Tf) (r : Rt) (fr to : Int) : costT t r fr to = callF r t.free fr (secsF fr to) := rfl
end Go.Ab.Tryd.S
