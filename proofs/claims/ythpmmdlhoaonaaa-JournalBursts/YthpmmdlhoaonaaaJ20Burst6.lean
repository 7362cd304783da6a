/- The loop of JournalBursts that changes the bits. Conditions: none. -/
import Derived.Test.YthpmmdlhoaonaaaJ20Burst2
import Derived.Test.YthpmmdlhoaonaaaJ20FnW4
namespace Go.Ab.Try.S
open Go.Proofs

theorem flip_all2 : ∀ y : _root_.Fin 256, ∀ q : _root_.Fin 8, let z : Int := ((toU .u8 (y.val : Int) ^^^ toU .u8 (wrp .u8 ((2 : Int) ^ min q.val (bitsOf .u8))) : Nat) : Int) % 256; z.toNat < 256 ∧ (z.toNat : Int) = z ∧ z.toNat = y.val ^^^ 2 ^ q.val := by decide +kernel

theorem flip_x (y : UInt8) {q : Nat} (hq : q < 8) : ∃ x : UInt8, ((x.toNat : Nat) : Int) = ((toU .u8 (y.toNat : Int) ^^^ toU .u8 (wrp .u8 (2 ^ min q (bitsOf .u8))) : Nat) : Int) % 256 ∧ x.toNat = y.toNat ^^^ 2 ^ q := by
  have hf := flip_all2 ⟨y.toNat, y.toNat_lt⟩ ⟨q, hq⟩
  simp only at hf
  obtain ⟨f1, f2, f3⟩ := hf
  refine ⟨UInt8.ofNat (((toU .u8 (y.toNat : Int) ^^^ toU .u8 (wrp .u8 (2 ^ min q (bitsOf .u8))) : Nat) : Int) % 256).toNat, ?_, ?_⟩
  · rw [UInt8.toNat_ofNat_of_lt' f1]; exact f2
  · rw [UInt8.toNat_ofNat_of_lt' f1]; exact f3

theorem dec32 {j : Nat} (h : j < 32) : 32 - (j + 1) < 32 - j := by omega
theorem burst_nums {place o j n : Nat} (hn : 0 < n) (hn2 : n ≤ 200) (ho : o = place % (8 * n)) (hpl : place < 65536) (hj : j < 32) : wrp .i64 ((j : Int) + 1) = j + 1 ∧ wrp .i64 (place : Int) = place ∧ (place : Int).tmod (8 * (n : Int)) = o ∧ o < 8 * n ∧ wrp .i64 ((o : Int) + j) = (o : Int) + j ∧ ¬ ((8 : Int) * n = 0) := by
  have hos : o < 8 * n := by rw [ho]; exact Nat.mod_lt _ (by omega)
  refine ⟨wrp_i64 (by omega), wrp_i64 (by omega), ?_, hos, wrp_i64 (by omega), by omega⟩
  rw [Int.tmod_eq_emod_of_nonneg (by omega), ho]
  simp

def burstS (l2 : List Rcd) (k place change g n1 n : Nat) (f : Int) (ch : Bool) (j : Int) : Env := [(0, .islice (recRows l2)), (2, .int .u16 place), (3, .int .u32 change), (10, .islice (rowsI64 (endsF 0 l2))), (12, .int .i64 k), (13, .int .i64 (8 * (n : Int))), (14, .int .i64 f), (15, .slice 1 g 0 n1), (16, .bool ch), (17, .int .i64 j)]

/-- What holds at each round. -/
structure BurstI (l2 : List Rcd) (k o place change g n1 : Nat) (pre d post : List UInt8) (L0 : ABlk) (m : Nat) (σ : Env) (H : Heap) (j : Nat) (d' : List UInt8) (w : Nat) (ch : Bool) : Prop where
  hm : m = 32 - j
  hj : j ≤ 32
  hl : d'.length = d.length
  hx : leN d ^^^ leN d' = w * 2 ^ o
  hW : w < 2 ^ j
  h1 : ch = true → w ≠ 0
  h2 : ch = false → d' = d
  hH : H = [L0, .rows g 1 (rowsU8 (pre ++ (d' ++ post)))]
  hσ : σ = burstS l2 k place change g n1 d.length (pre.length : Nat) ch j

theorem burst_pos {o j : Nat} {pre d d' post : List UInt8} (hl : d'.length = d.length) {n1 : Nat} (hb : (o : Int) + j < 8 * d.length) (hd : d.length ≤ 200) (hn : n1 = pre.length + (d.length + post.length)) (hn1 : n1 ≤ 10000) :
    ∃ (p q : Nat) (x : UInt8), ∃ (h : p < d'.length), q < 8 ∧ o + j = 8 * p + q ∧ ((o : Int) + j).tdiv 8 = p ∧ ((o : Int) + j).tmod 8 = q ∧ wrp .i64 (p : Int) = p ∧ wrp .i64 ((pre.length : Int) + p) = (pre.length : Int) + p ∧
      (rowsU8 (pre ++ (d' ++ post)))[pre.length + p]? = some [.int .u8 (d'[p].toNat : Nat)] ∧
      (rowsU8 (pre ++ (d' ++ post))).set (pre.length + p) [.int .u8 (x.toNat : Nat)] = rowsU8 (pre ++ (d'.set p x ++ post)) ∧
      ((x.toNat : Nat) : Int) = ((toU .u8 (d'[p].toNat : Int) ^^^ toU .u8 (wrp .u8 (2 ^ min q (bitsOf .u8))) : Nat) : Int) % 256 ∧ x.toNat = d'[p].toNat ^^^ 2 ^ q ∧ (pre.length : Int) + p < n1 ∧ 0 ≤ (pre.length : Int) + p ∧ ((pre.length : Int) + p).toNat = pre.length + p := by
  have hp2 : (o + j) / 8 < d'.length := by omega
  obtain ⟨x, hx1, hx2⟩ := flip_x d'[(o + j) / 8] (q := (o + j) % 8) (Nat.mod_lt _ (by decide))
  refine ⟨(o + j) / 8, (o + j) % 8, x, hp2, Nat.mod_lt _ (by decide), by omega, ?_, ?_, wrp_i64 (by omega), wrp_i64 (by omega), ?_, ?_, hx1, hx2, by omega, by omega, by omega⟩
  · rw [Int.tdiv_eq_ediv_of_nonneg (by omega)]; omega
  · rw [Int.tmod_eq_emod_of_nonneg (by omega)]; omega
  · simp [rowsU8, List.getElem?_append_right, List.getElem?_append_left, hp2]
  · simp [rowsU8, List.map_set, hp2]

def BurstE (l2 : List Rcd) (k o place change g n1 : Nat) (pre d post : List UInt8) (L0 : ABlk) (m : Nat) (σ : Env) (H : Heap) : Prop := ∃ (j : Nat) (d' : List UInt8) (w : Nat) (ch : Bool), BurstI l2 k o place change g n1 pre d post L0 m σ H j d' w ch

theorem burst_loop {l2 : List Rcd} {k o place change g n1 : Nat} {pre d post : List UInt8} {L0 : ABlk} {K : Ex → Env → Heap → Prop} (hd : 0 < d.length) (hd2 : d.length ≤ 200) (ho : o = place % (8 * d.length)) (hpl : place < 65536) (hc : change < 4294967296) (hn : n1 = pre.length + (d.length + post.length)) (hn1 : n1 ≤ 10000)
    (hk : ∀ (d' : List UInt8) (w : Nat) (ch : Bool) (x : AV), d'.length = d.length → leN d ^^^ leN d' = w * 2 ^ o → w < 4294967296 → (ch = true → w ≠ 0) → (ch = false → d' = d) →
      K (.exit 0) (burstS l2 k place change g n1 d.length (pre.length : Nat) ch 32 ++ [(78, x)]) [L0, .rows g 1 (rowsU8 (pre ++ (d' ++ post)))]) :
    wpC (Spec Try.prog) [] (MCode.loop [0, 2, 3, 10, 12, 13, 14, 15, 16, 17] W.m6l22) (burstS l2 k place change g n1 d.length (pre.length : Nat) false 0) [L0, .rows g 1 (rowsU8 (pre ++ (d ++ post)))] K := by
  refine vc_loop (BurstE l2 k o place change g n1 pre d post L0) 32
    ⟨0, d, 0, false, rfl, by omega, rfl, by simp, by simp, by simp, by simp, rfl, rfl⟩ ?_
  rintro m σ H ⟨j, d', w, ch, rfl, hj, hl, hx, hW, h1, h2, rfl, rfl⟩
  by_cases hlt : j < 32
  · have hlt2 : (j : Int) < 32 := by omega
    obtain ⟨z1, z0, z2, hos, z3, z4⟩ := burst_nums hd hd2 ho hpl hlt
    simp [burstS, W.m6l22, W.m6r15, W.m6r16, W.m6r17, W.m6r21, z1, z0, z2, z3, z4, hlt2]
    generalize hv : wrp .u32 ((toU .u32 ((change : Int) / 2 ^ min j (bitsOf .u32)) &&& toU .u32 1 : Nat) : Int) = v
    by_cases hv1 : v = 1
    · by_cases hb2 : (o : Int) + j < 8 * d.length
      · obtain ⟨p, q, x, hp, hq, hpq, d1, d2, d4, d3, hg, hset, hx1, hx2, hn2, hn3, ht⟩ := burst_pos (pre := pre) (post := post) hl hb2 hd2 hn hn1
        simp [hv1, hb2, W.m6r18, W.m6r19, W.m6r20, d1, d2, d3, d4, hn2, hn3, ht, iaddr_sl, hg, z1]
        rw [← hx1, hset]
        obtain ⟨w', w1, w2, w3⟩ := burst_step hx hW hpq hp hx2
        exact ⟨32 - (j + 1), dec32 hlt, j + 1, _, w', true, rfl, hlt, by rw [List.length_set]; exact hl, w1, w2, fun _ => w3, by simp, rfl, rfl⟩
      · simp [hv1, hb2, z1]
        exact ⟨32 - (j + 1), dec32 hlt, j + 1, d', w, ch, rfl, hlt, hl, hx, Nat.lt_trans hW (Nat.pow_lt_pow_right (by decide) (Nat.lt_succ_self _)), h1, h2, rfl, rfl⟩
    · simp [hv1, z1]
      exact ⟨32 - (j + 1), dec32 hlt, j + 1, d', w, ch, rfl, hlt, hl, hx, Nat.lt_trans hW (Nat.pow_lt_pow_right (by decide) (Nat.lt_succ_self _)), h1, h2, rfl, rfl⟩
  · have hj2 : j = 32 := by omega
    subst hj2
    simp [burstS, W.m6l22, W.m6r15]
    exact hk d' w ch _ hl hx hW h1 h2
end Go.Ab.Try.S
