/- EncodeAct by the document. Conditions: none. -/
import Derived.Test.YtomakhllonkpiaaJ22Plain3
namespace Go.Ab.Try.S
open Go.Proofs

theorem wr_text {r : Rg} {g : Nat} {b : List UInt8} {J : Heap} {K : AV → Heap → Prop} (s : List UInt8) (hs : s.length ≤ 100000)
    (k : K (.islice (rowsU8 (txtB s))) (.rows 0 9 [r.row] :: .rows g 1 (rowsU8 b) :: J)) : callK (Spec Try.prog) 36 [.str s] (.rows 0 9 [r.row] :: .rows g 1 (rowsU8 b) :: J) K :=
  vc_call ((text36 s (by omega)).frame (Cls.cons .str .nil) (cl_plain (rowsU8_plain _)) _) k
theorem wr_num {r : Rg} {g : Nat} {b : List UInt8} {J : Heap} {K : AV → Heap → Prop} (n : Int) (size : Nat) (h0 : (0 ≤ n ∧ n < 9223372036854775808) ∨ (size = 4 ∧ -4294967296 ≤ n ∧ n < 9223372036854775808)) (hs : 0 < size) (hs2 : size ≤ 8)
    (k : K (.slice (J.length + 1 + 1) (gS size) 0 size) (.rows 0 9 [r.row] :: .rows g 1 (rowsU8 b) :: (J ++ [.rows (gS size) 1 (rowsU8 (numZ n size))]))) : callK (Spec Try.prog) 35 [.int .i64 n, .int .i64 size] (.rows 0 9 [r.row] :: .rows g 1 (rowsU8 b) :: J) K :=
  vc_call (number35 _ n size h0 hs hs2) k
theorem ap_gen {r : Rg} {g m n : Nat} {b d : List UInt8} {J : Heap} {x : AV} {K : AV × Heap → Prop} (hx : elems (.rows 0 9 [r.row] :: .rows g 1 (rowsU8 b) :: J) x = some (rowsU8 d)) (hm : m = b.length) (hn : n = d.length) (hd : 0 < d.length) (hb : b.length + d.length ≤ 1000000)
    (k : K (.slice 1 (g + 1) 0 (m + n), .rows 0 9 [r.row] :: .rows (g + 1) 1 (rowsU8 (b ++ d)) :: J)) : W (appendAV (.rows 0 9 [r.row] :: .rows g 1 (rowsU8 b) :: J) 1 1 (.slice 1 g 0 m) x) K := by
  subst hm hn
  have hap := append_some (H := .rows 0 9 [r.row] :: .rows g 1 (rowsU8 b) :: J) (r := 1) (g := g) (sz := 1) (bytes := 1) (rs := rowsU8 b) (x := x) (news := rowsU8 d) rfl hx (rowsU8_row d) (by simp [roomB]; omega) (by
    intro h
    have := congrArg List.length h
    simp at this
    rw [this] at hd
    exact absurd hd (by simp))
  rw [rowsU8_len, rowsU8_len] at hap
  refine W_of hap ?_
  rw [rowsU8_append] at k
  exact k
theorem ap_text {r : Rg} {g m : Nat} {b : List UInt8} {J : Heap} {K : AV × Heap → Prop} (s : List UInt8) (hm : m = b.length) (hs : s.length ≤ 100000) (hb : b.length ≤ 100000)
    (k : K (.slice 1 (g + 1) 0 (m + (2 + s.length)), .rows 0 9 [r.row] :: .rows (g + 1) 1 (rowsU8 (b ++ txtB s)) :: J)) : W (appendAV (.rows 0 9 [r.row] :: .rows g 1 (rowsU8 b) :: J) 1 1 (.slice 1 g 0 m) (.islice (rowsU8 (txtB s)))) K :=
  ap_gen rfl hm (by simp) (by simp; omega) (by simp; omega) k
theorem ap_byte {r : Rg} {g m : Nat} {b : List UInt8} {J : Heap} {K : AV × Heap → Prop} (n v : Int) (hv : v = (byteZ n 0).toNat) (hm : m = b.length) (hb : b.length ≤ 100000)
    (k : K (.slice 1 (g + 1) 0 (m + 1), .rows 0 9 [r.row] :: .rows (g + 1) 1 (rowsU8 (b ++ numZ n 1)) :: J)) : W (appendAV (.rows 0 9 [r.row] :: .rows g 1 (rowsU8 b) :: J) 1 1 (.slice 1 g 0 m) (.islice [[.int .u8 v]])) K := by
  subst hv
  exact ap_gen (d := numZ n 1) (by simp [numZ, rowsU8]) hm (by simp) (by simp) (by simp; omega) k
theorem ap_num {r : Rg} {g m : Nat} {b : List UInt8} {J : Heap} {K : AV × Heap → Prop} (n : Int) (size : Nat) (hm : m = b.length) (hs : 0 < size) (hs2 : size ≤ 8) (hb : b.length ≤ 100000)
    (k : ∀ J', K (.slice 1 (g + 1) 0 (m + size), .rows 0 9 [r.row] :: .rows (g + 1) 1 (rowsU8 (b ++ numZ n size)) :: J')) :
    W (appendAV (.rows 0 9 [r.row] :: .rows g 1 (rowsU8 b) :: (J ++ [.rows (gS size) 1 (rowsU8 (numZ n size))])) 1 1 (.slice 1 g 0 m) (.slice (J.length + 1 + 1) (gS size) 0 size)) K := by
  refine ap_gen (d := numZ n size) ?_ hm (by simp) (by simpa using hs) (by simp; omega) (k _)
  rw [elems_sl, rowsOf_of (g := gS size) (s := 1) (rs := rowsU8 (numZ n size)) (by simp)]
  simp
  exact List.take_of_length_le (by simp)

theorem byte_len (n : Nat) : wrp .u8 (n : Int) = ((byteZ n 0).toNat : Int) := by
  rw [byteZ_nat]
  simp

def I14 (r : Rg) (b : List UInt8) (m : Nat) (σ : Env) (H : Heap) : Prop := ∃ (k g : Nat) (J : Heap), m = r.cs.length - k ∧ k ≤ r.cs.length ∧ H = WH r g (b ++ (r.cs.take k).flatMap encC) J ∧
  σ = [(3, .ptr 0 0 0 0), (6, .slice 1 g 0 (b ++ (r.cs.take k).flatMap encC).length), (7, .int .i64 k)]
theorem loop14 (r : Rg) (z : Sizes r) (b : List UInt8) (hb : b.length ≤ 10000) {σ : Env} {g : Nat} {J : Heap} (e3 : σ.get 3 = .ptr 0 0 0 0) (e6 : σ.get 6 = .slice 1 g 0 b.length) {Q : Ex → Env → Heap → Prop}
    (hQ : ∀ σ' g' J', σ'.get 3 = .ptr 0 0 0 0 → σ'.get 6 = .slice 1 g' 0 (b ++ r.cs.flatMap encC).length → Q .normal σ' (WH r g' (b ++ r.cs.flatMap encC) J')) :
    wpC (Spec Try.prog) [] (.seq (.region m14r14 [3, 6, 7]) (.block 0 (.loop [3, 6, 7] m14l20))) σ (WH r g b J) Q := by
  simp [m14r14, WH]
  refine vc_loop (I14 r b) r.cs.length ⟨0, g, J, rfl, by omega, by simp [WH], by simp [e3, e6]⟩ ?_
  rintro m σ1 H1 ⟨k, g, J, rfl, hk, rfl, rfl⟩
  by_cases hlt : k < r.cs.length
  · have hlt2 : (k : Int) < r.cs.length := by omega
    have zcs := z.cs
    have zi : FI (wrp .i64 ((k : Int) + 1)) (k + 1) := fi64 (by omega)
    obtain ⟨c, hc⟩ : ∃ c, c = r.cs[k] := ⟨_, rfl⟩
    have zc := z.ct c (hc ▸ List.getElem_mem _)
    have hfl : ((r.cs.take k).flatMap encC).length ≤ 20 * 1008 := by
      refine Nat.le_trans (flat_le (n := 1008) _ fun c hc => ?_) ?_
      · have := z.ct c (List.mem_of_mem_take hc)
        rw [encC_len]; omega
      · rw [List.length_take]
        exact Nat.mul_le_mul (by omega) (by omega)
    obtain ⟨B, hB⟩ : ∃ B, B = b ++ (r.cs.take k).flatMap encC := ⟨_, rfl⟩
    have hBl : B.length ≤ 40000 := by rw [hB, List.length_append]; omega
    rw [← hB]
    simp [m14l20, m14r15, m14r16, hlt, hlt2, iaddr_is, ← hc, WH, Ct.row]
    refine wr_text c.uri (by omega) ?_
    simp
    refine ap_text c.uri rfl (by omega) (by omega) ?_
    simp [m14r17, hlt, hlt2, iaddr_is, ← hc, Ct.row]
    refine wr_num c.q 2 (by omega) (by omega) (by omega) ?_
    simp
    refine ap_num c.q 2 (by simp) (by omega) (by omega) (by simp; omega) fun J1 => ?_
    simp [m14r18, hlt, hlt2, iaddr_is, ← hc, Ct.row]
    refine wr_num c.exp 4 (by omega) (by omega) (by omega) ?_
    simp
    refine ap_num c.exp 4 (by simp; omega) (by omega) (by omega) (by simp; omega) fun J2 => ?_
    simp [m14r19, zi.o]
    have e : B ++ encC c = b ++ (r.cs.take (k + 1)).flatMap encC := by rw [flat_take hlt, hB, ← hc, List.append_assoc]
    refine ⟨_, Nat.sub_succ_lt_self _ _ hlt, k + 1, g + 1 + 1 + 1, J2, rfl, hlt, ?_, ?_⟩
    · rw [← e]
      simp [WH, encC]
    · rw [← e]
      simp
      omega
  · have hk2 : k = r.cs.length := by omega
    subst hk2
    rw [List.take_length]
    simp [m14l20, m14r15, WH]
    exact hQ _ _ _ (by simp) (by simp)
def K14 (r : Rg) (b : List UInt8) (m : Nat) (σ : Env) (H : Heap) : Prop := ∃ (k g : Nat) (J : Heap), m = r.path.length - k ∧ k ≤ r.path.length ∧ H = WH r g (b ++ (r.path.take k).flatMap txtB) J ∧
  σ = [(3, .ptr 0 0 0 0), (6, .slice 1 g 0 (b ++ (r.path.take k).flatMap txtB).length), (8, .int .i64 k)]
theorem loop14p (r : Rg) (z : Sizes r) (b : List UInt8) (hb : b.length ≤ 40000) {σ : Env} {g : Nat} {J : Heap} (e3 : σ.get 3 = .ptr 0 0 0 0) (e6 : σ.get 6 = .slice 1 g 0 b.length) {Q : Ex → Env → Heap → Prop}
    (hQ : ∀ σ' g' J', σ'.get 6 = .slice 1 g' 0 (b ++ r.path.flatMap txtB).length → Q .normal σ' (WH r g' (b ++ r.path.flatMap txtB) J')) :
    wpC (Spec Try.prog) [] (.seq (.region m14r22 [3, 6, 8]) (.block 2 (.loop [3, 6, 8] m14l26))) σ (WH r g b J) Q := by
  simp [m14r22, WH]
  refine vc_loop (K14 r b) r.path.length ⟨0, g, J, rfl, by omega, by simp [WH], by simp [e3, e6]⟩ ?_
  rintro m σ1 H1 ⟨k, g, J, rfl, hk, rfl, rfl⟩
  by_cases hlt : k < r.path.length
  · have hlt2 : (k : Int) < r.path.length := by omega
    have zcs := z.path
    have zi : FI (wrp .i64 ((k : Int) + 1)) (k + 1) := fi64 (by omega)
    obtain ⟨c, hc⟩ : ∃ c, c = r.path[k] := ⟨_, rfl⟩
    have zc := z.pt c (hc ▸ List.getElem_mem _)
    have hfl : ((r.path.take k).flatMap txtB).length ≤ 10 * 1002 := by
      refine Nat.le_trans (flat_le (n := 1002) _ fun c hc => ?_) ?_
      · have := z.pt c (List.mem_of_mem_take hc)
        rw [txtB_len]; omega
      · rw [List.length_take]
        exact Nat.mul_le_mul (by omega) (by omega)
    obtain ⟨B, hB⟩ : ∃ B, B = b ++ (r.path.take k).flatMap txtB := ⟨_, rfl⟩
    have hBl : B.length ≤ 60000 := by rw [hB, List.length_append]; omega
    rw [← hB]
    simp [m14l26, m14r23, m14r24, hlt, hlt2, iaddr_is, ← hc, WH]
    refine wr_text c (by omega) ?_
    simp
    refine ap_text c rfl (by omega) (by omega) ?_
    simp [m14r25, zi.o]
    have e : B ++ txtB c = b ++ (r.path.take (k + 1)).flatMap txtB := by rw [flat_take hlt, hB, ← hc, List.append_assoc]
    refine ⟨_, Nat.sub_succ_lt_self _ _ hlt, k + 1, g + 1, J, rfl, hlt, ?_, ?_⟩
    · rw [← e]
      simp [WH]
    · rw [← e]
      simp
  · have hk2 : k = r.path.length := by omega
    subst hk2
    rw [List.take_length]
    simp [m14l26, m14r23, WH]
    exact hQ _ _ _ (by simp)

def T14b : MCode := (.seq (.region m14r21 [3, 6]) (.seq (.seq (.region m14r22 [3, 6, 8]) (.block 2 (.loop [3, 6, 8] m14l26))) (.seq (.seq (.region m14r27 [6, 122]) (.cond (.tmp 122) (.seq (.region m14r28 [4, 5]) .ret) .skip)) (.seq (.region m14r29 [4, 5]) .ret))))
def T14 : MCode := (.seq (.seq (.region m14r14 [3, 6, 7]) (.block 0 (.loop [3, 6, 7] m14l20))) T14b)
theorem end14 (now : Int) (r : Rg) (hok : okA now r = true) (z : Sizes r) (b : List UInt8) (hb : b.length ≤ 10000) (hbe : b ++ r.cs.flatMap encC ++ numZ r.path.length 1 ++ r.path.flatMap txtB = encA now r) {σ : Env} {g : Nat} {J : Heap}
    (e3 : σ.get 3 = .ptr 0 0 0 0) (e6 : σ.get 6 = .slice 1 g 0 b.length) : wpC (Spec Try.prog) [] T14 σ (WH r g b J) (EQ13 now r) := by
  unfold T14
  rw [wpC_seq]
  refine loop14 r z b hb e3 e6 fun σ1 g1 J1 e3 e6 => ?_
  have hfl : (r.cs.flatMap encC).length ≤ 20 * 1008 := by
    refine Nat.le_trans (flat_le (n := 1008) _ fun c hc => ?_) (Nat.mul_le_mul z.cs (Nat.le_refl _))
    have := z.ct c hc
    rw [encC_len]; omega
  obtain ⟨B, hB⟩ : ∃ B, B = b ++ r.cs.flatMap encC := ⟨_, rfl⟩
  have hBl : B.length ≤ 40000 - 10 := by rw [hB, List.length_append]; omega
  rw [← hB] at e6 hbe ⊢
  show wpC _ _ T14b σ1 _ _
  unfold T14b
  simp [m14r21, e3, e6, WH, fillRows]
  refine ap_byte r.path.length _ (byte_len _) rfl (by omega) ?_
  simp
  refine to_seqs (loop14p r z (B ++ numZ r.path.length 1) (by simp; omega) (g := g1 + 1) (J := J1) (by simp) (by simp) fun σ2 g2 J2 e6 => ?_)
  rw [hbe] at e6 ⊢
  simp [m14r27, e6]
  refine ⟨fun h => ?_, fun h => ?_⟩
  · simp [m14r28]
    exact ⟨.inr rfl, fin_err (k := 4) rfl (by rw [encV, if_pos hok, if_pos (show 4096 < (encA now r).length by omega)]; rfl)⟩
  · simp [m14r29]
    refine ⟨.inr rfl, ?_⟩
    simp only [get_cons]
    rw [encV, if_pos hok, if_neg (show ¬4096 < (encA now r).length by omega)]
    exact fin_drop (CVs.cons (freeze_all (k := 1) (g := g2) (s := 1) (rs := rowsU8 (encA now r)) rfl (by simp) (by simp) (rowsU8_row _) (rowsU8_plain _)) (CVs.cons (.refl .int) .nil)).tup

def T14m : MCode := (.seq (.region m14r10 [3, 6]) (.seq (.region m14r11 [3, 6]) (.seq (.region m14r12 [3, 6]) (.seq (.region m14r13 [3, 6]) T14))))
theorem mid14 (now : Int) (r : Rg) (hok : okA now r = true) (z : Sizes r) (b : List UInt8) (hb : b.length ≤ 1000) (hbe : b ++ numZ r.exp 4 ++ txtB r.inst ++ numZ r.flow 4 ++ numZ r.cs.length 1 = encH now r) {σ : Env} {g : Nat} {J : Heap}
    (e3 : σ.get 3 = .ptr 0 0 0 0) (e6 : σ.get 6 = .slice 1 g 0 b.length) : wpC (Spec Try.prog) [] T14m σ (WH r g b J) (EQ13 now r) := by
  have zi := z.inst
  have ze := z.exp
  have zf := z.flow
  have hle := congrArg List.length hbe
  simp at hle
  unfold T14m
  simp [m14r10, e3, e6, WH]
  refine wr_num r.exp 4 (by omega) (by omega) (by omega) ?_
  simp
  refine ap_num r.exp 4 rfl (by omega) (by omega) (by omega) fun J1 => ?_
  simp [m14r11, e3]
  refine wr_text r.inst (by omega) ?_
  simp
  refine ap_text r.inst (by simp) (by omega) (by simp; omega) ?_
  simp [m14r12]
  refine wr_num r.flow 4 (by omega) (by omega) (by omega) ?_
  simp
  refine ap_num r.flow 4 (by simp; omega) (by omega) (by omega) (by simp; omega) fun J2 => ?_
  simp [m14r13, fillRows]
  refine ap_byte r.cs.length _ (byte_len _) (by simp; omega) (by simp; omega) ?_
  simp
  simp at hbe
  rw [hbe]
  refine end14 now r hok z (encH now r) (by omega) rfl (by simp) ?_
  simp
  omega

theorem enc14 (now : Int) (r : Rg) (hl : r.cs.length ≤ 1000) (hp : r.path.length ≤ 1000) : Spec Try.prog 14 [.int .i64 now, .agg r.row] [] (encV now r) [] := by
  refine spec_of_wp (C := Spec Try.prog) (fun _ _ _ _ _ h => h) mixed m14_ok (show 2 ≤ _ by decide) ?_
  unfold m14
  simp +contextual [m14r0, m14r1, envOf, -condK_bool]
  refine vc_call ((formed12 r hl hp).frame (Cls.cons (cl_rg _) .nil) .bool _) ?_
  simp +contextual [-condK_bool]
  refine gdG_call (fun _ => (within28 now 0 1099511627776).frame (Cls.cons .int (Cls.cons .int (Cls.cons .int .nil))) .bool _) ?_
  simp +contextual [-condK_bool]
  refine condK_of (y := !okA now r) (by simp [okA]) (fun h => ?_) (fun h => ?_)
  · simp [m14r2]
    exact fin_err (k := 2) rfl (by rw [encV, if_neg (by simpa using h)]; rfl)
  have hok : okA now r = true := by simpa using h
  have hf : formedB r = true := by
    simp only [okA, Bool.and_eq_true] at hok
    exact hok.1
  have hnow : 0 ≤ now ∧ now ≤ 1099511627776 := by
    simp only [okA, wi, Bool.and_eq_true, decide_eq_true_eq] at hok
    exact hok.2
  have z := sizes hf
  have za := z.aor
  have zc := z.cid
  have zq := z.cseq
  simp [m14r3]
  refine vc_call (number35 _ now 8 (by omega) (by omega) (by omega)) ?_
  simp [m14r4]
  refine wr_text r.aor (by omega) ?_
  simp
  refine ap_text r.aor (by simp) (by omega) (by simp) ?_
  simp [m14r5]
  refine wr_text r.cid (by omega) ?_
  simp
  refine ap_text r.cid (by simp) (by omega) (by simp; omega) ?_
  simp [m14r6]
  refine wr_num r.cseq 4 (by omega) (by omega) (by omega) ?_
  simp
  refine ap_num (J := []) r.cseq 4 (by simp; omega) (by omega) (by omega) (by simp; omega) fun J1 => ?_
  simp [m14r7]
  have hb : (numZ now 8 ++ (txtB r.aor ++ (txtB r.cid ++ (numZ r.cseq 4 ++ numZ (starN r.star) 1)))).length ≤ 1000 := by
    simp
    omega
  have he : (numZ now 8 ++ (txtB r.aor ++ (txtB r.cid ++ (numZ r.cseq 4 ++ numZ (starN r.star) 1)))) ++ numZ r.exp 4 ++ txtB r.inst ++ numZ r.flow 4 ++ numZ r.cs.length 1 = encH now r := by simp [encH]
  refine ⟨fun hs => ?_, fun hs => ?_⟩
  · simp [m14r8, fillRows]
    refine ap_byte (starN r.star) _ (by rw [hs]; rfl) (by simp; omega) (by simp; omega) ?_
    simp
    exact to_seq (mid14 now r hok z _ hb he (by simp) (by simp; omega))
  · simp [m14r9, fillRows]
    refine ap_byte (starN r.star) _ (by rw [hs]; rfl) (by simp; omega) (by simp; omega) ?_
    simp
    exact to_seq (mid14 now r hok z _ hb he (by simp) (by simp; omega))
end Go.Ab.Try.S
