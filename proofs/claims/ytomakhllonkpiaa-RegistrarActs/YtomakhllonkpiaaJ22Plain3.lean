/- EncodeAct by the program. Conditions: none. -/
import Derived.Test.YtomakhllonkpiaaJ22Num2
import Derived.Test.YtomakhllonkpiaaJ22Law3
namespace Go.Ab.Try.S
open Go.Proofs

def encC (c : Ct) : List UInt8 := txtB c.uri ++ numZ c.q 2 ++ numZ c.exp 4
def starN (b : Bool) : Int := if b then 1 else 0
def encH (now : Int) (r : Rg) : List UInt8 := numZ now 8 ++ txtB r.aor ++ txtB r.cid ++ numZ r.cseq 4 ++ numZ (starN r.star) 1 ++ numZ r.exp 4 ++ txtB r.inst ++ numZ r.flow 4 ++ numZ r.cs.length 1
def encA (now : Int) (r : Rg) : List UInt8 := encH now r ++ r.cs.flatMap encC ++ numZ r.path.length 1 ++ r.path.flatMap txtB
def okA (now : Int) (r : Rg) : Bool := formedB r && wi now 0 1099511627776

structure Sizes (r : Rg) : Prop where
  aor : 1 ≤ r.aor.length ∧ r.aor.length ≤ 255
  cid : 1 ≤ r.cid.length ∧ r.cid.length ≤ 255
  cseq : 0 ≤ r.cseq ∧ r.cseq ≤ 2147483647
  exp : -1 ≤ r.exp ∧ r.exp ≤ 2147483647
  inst : r.inst.length ≤ 255
  flow : 0 ≤ r.flow ∧ r.flow ≤ 2147483647
  cs : r.cs.length ≤ 20
  path : r.path.length ≤ 10
  pt : ∀ s ∈ r.path, 1 ≤ s.length ∧ s.length ≤ 1000
  ct : ∀ c ∈ r.cs, (1 ≤ c.uri.length ∧ c.uri.length ≤ 1000) ∧ (0 ≤ c.q ∧ c.q ≤ 1000) ∧ (-1 ≤ c.exp ∧ c.exp ≤ 2147483647)
theorem goodC_all : ∀ (l d : List Ct), goodC d l = true → ∀ c ∈ l, cB c = true
  | [], _, _, c, hc => by cases hc
  | a :: t, d, h, c, hc => by
    unfold goodC at h
    simp only [Bool.and_eq_true] at h
    rcases List.mem_cons.1 hc with rfl | hc
    · exact h.1
    · exact goodC_all t _ h.2.2 c hc
theorem sizes {r : Rg} (h : formedB r = true) : Sizes r := by
  unfold formedB at h
  simp only [Bool.and_eq_true] at h
  obtain ⟨⟨⟨⟨hA, hB⟩, hC⟩, hD⟩, hG⟩ := h
  simp only [fA, wi, Bool.and_eq_true, decide_eq_true_eq] at hA
  simp only [fB, Bool.and_eq_true, Bool.not_eq_true', decide_eq_false_iff_not] at hB
  simp only [fC, wi, Bool.and_eq_true, decide_eq_true_eq, Bool.not_eq_true', decide_eq_false_iff_not] at hC
  simp only [fD, Bool.and_eq_true, Bool.not_eq_true', decide_eq_false_iff_not, List.all_eq_true, pB, wi, decide_eq_true_eq] at hD
  refine ⟨by omega, by omega, by omega, by omega, by omega, by omega, by omega, by omega, fun s hs => ?_, fun c hc => ?_⟩
  · have := hD.2 s hs; omega
  · have := goodC_all _ _ hG c hc
    simp only [cB, wi, Bool.and_eq_true, decide_eq_true_eq] at this
    refine ⟨⟨by omega, by omega⟩, by omega, by omega⟩

/-- The heap while an act is written. -/
def WH (r : Rg) (g : Nat) (b : List UInt8) (J : Heap) : Heap := .rows 0 9 [r.row] :: .rows g 1 (rowsU8 b) :: J
theorem wh_num {r : Rg} {g m : Nat} {b : List UInt8} {J : Heap} {K : AV → Heap → Prop} (n : Int) (size : Nat) (hm : m = b.length) (hsize : size ≤ 8) (hb : b.length ≤ 1000000)
    (k : K (.slice 1 (g + size) 0 (m + size)) (.rows 0 9 [r.row] :: .rows (g + size) 1 (rowsU8 (b ++ numZ n size)) :: J)) : callK (Spec Try.prog) 34 [.slice 1 g 0 m, .int .i64 n, .int .i64 size] (.rows 0 9 [r.row] :: .rows g 1 (rowsU8 b) :: J) K := by
  subst hm
  exact vc_call (num_own n rfl hsize (by omega)) k
theorem wh_text {r : Rg} {g m : Nat} {b : List UInt8} {J : Heap} {K : AV → Heap → Prop} (s : List UInt8) (hm : m = b.length) (hs : s.length ≤ 100000) (hb : b.length ≤ 1000000)
    (k : K (.slice 1 (g + gT s) 0 (m + (2 + s.length))) (.rows 0 9 [r.row] :: .rows (g + gT s) 1 (rowsU8 (b ++ txtB s)) :: J)) : callK (Spec Try.prog) 33 [.slice 1 g 0 m, .str s] (.rows 0 9 [r.row] :: .rows g 1 (rowsU8 b) :: J) K := by
  subst hm
  exact vc_call (text33 s rfl (by omega) hs) k

theorem flat_le {α : Type} {f : α → List UInt8} {n : Nat} : ∀ (l : List α), (∀ a ∈ l, (f a).length ≤ n) → (l.flatMap f).length ≤ l.length * n
  | [], _ => by simp
  | a :: t, h => by
    have h1 := flat_le t fun b hb => h b (List.mem_cons_of_mem _ hb)
    have h2 := h a (List.mem_cons_self ..)
    simp only [List.flatMap_cons, List.length_append, List.length_cons, Nat.succ_mul]
    omega
@[simp] theorem encC_len (c : Ct) : (encC c).length = c.uri.length + 8 := by simp [encC]; omega
theorem flat_take {α : Type} {f : α → List UInt8} {l : List α} {k : Nat} (h : k < l.length) : (l.take (k + 1)).flatMap f = (l.take k).flatMap f ++ f l[k] := by
  rw [List.take_succ_eq_append_getElem h, List.flatMap_append]
  simp

def I13 (r : Rg) (b : List UInt8) (m : Nat) (σ : Env) (H : Heap) : Prop := ∃ (k g : Nat) (J : Heap), m = r.cs.length - k ∧ k ≤ r.cs.length ∧ H = WH r g (b ++ (r.cs.take k).flatMap encC) J ∧
  σ = [(3, .ptr 0 0 0 0), (6, .slice 1 g 0 (b ++ (r.cs.take k).flatMap encC).length), (53, .islice (ctRows r.cs)), (54, .int .i64 r.cs.length), (55, .int .i64 k)]
theorem loop13 (r : Rg) (z : Sizes r) (b : List UInt8) (hb : b.length ≤ 10000) {σ : Env} {g : Nat} {J : Heap} (e3 : σ.get 3 = .ptr 0 0 0 0) (e6 : σ.get 6 = .slice 1 g 0 b.length) {Q : Ex → Env → Heap → Prop}
    (hQ : ∀ σ' g' J', σ'.get 3 = .ptr 0 0 0 0 → σ'.get 6 = .slice 1 g' 0 (b ++ r.cs.flatMap encC).length → Q .normal σ' (WH r g' (b ++ r.cs.flatMap encC) J')) :
    wpC (Spec Try.prog) [] (.seq (.region m13r21 [3, 6, 53, 54, 55]) (.block 0 (.loop [3, 6, 53, 54, 55] m13l30))) σ (WH r g b J) Q := by
  simp [m13r21, e3, e6, WH, Rg.row]
  refine vc_loop (I13 r b) r.cs.length ⟨0, g, J, rfl, by omega, by simp [WH, Rg.row], by simp⟩ ?_
  rintro m σ1 H1 ⟨k, g, J, rfl, hk, rfl, rfl⟩
  by_cases hlt : k < r.cs.length
  · have hlt2 : (k : Int) < r.cs.length := by omega
    have zcs := z.cs
    have zi : FI (wrp .i64 ((k : Int) + 1)) (k + 1) := fi64 (by omega)
    obtain ⟨c, hc⟩ : ∃ c, c = r.cs[k] := ⟨_, rfl⟩
    have zc := z.ct c (hc ▸ List.getElem_mem _)
    have hfl : ((r.cs.take k).flatMap encC).length ≤ 20 * 1008 := by
      refine Nat.le_trans (flat_le (n := 1008) _ fun c hc => ?_) ?_
      · have := z.ct c (List.mem_of_mem_take hc)
        rw [encC_len]; omega
      · rw [List.length_take]
        have := z.cs
        exact Nat.mul_le_mul (by omega) (by omega)
    obtain ⟨B, hB⟩ : ∃ B, B = b ++ (r.cs.take k).flatMap encC := ⟨_, rfl⟩
    have hBl : B.length ≤ 40000 := by rw [hB, List.length_append]; omega
    rw [← hB]
    simp [m13l30, m13r22, m13r23, m13r24, m13r25, m13r26, m13r27, m13r28, m13r29, hlt, hlt2, iaddr_is, ← hc, WH, Ct.row]
    refine wh_text c.uri rfl (by omega) (by omega) ?_
    simp
    refine wh_num c.q 2 (by simp) (by omega) (by simp; omega) ?_
    simp
    refine wh_num c.exp 4 (by simp; omega) (by omega) (by simp; omega) ?_
    simp [zi.o]
    have e : B ++ encC c = b ++ (r.cs.take (k + 1)).flatMap encC := by rw [flat_take hlt, hB, ← hc, List.append_assoc]
    refine ⟨_, Nat.sub_succ_lt_self _ _ hlt, k + 1, g + gT c.uri + 2 + 4, J ++ [.rows 0 3 [[.str c.uri, .int .i64 c.q, .int .i64 c.exp]]], rfl, hlt, ?_, ?_⟩
    · rw [← e]
      simp [WH, encC]
    · rw [← e]
      simp
      omega
  · have hk2 : k = r.cs.length := by omega
    subst hk2
    rw [List.take_length]
    simp [m13l30, m13r22]
    exact hQ _ _ _ (by simp) (by simp)

def K13 (r : Rg) (b : List UInt8) (m : Nat) (σ : Env) (H : Heap) : Prop := ∃ (k g : Nat) (J : Heap), m = r.path.length - k ∧ k ≤ r.path.length ∧ H = WH r g (b ++ (r.path.take k).flatMap txtB) J ∧
  σ = [(6, .slice 1 g 0 (b ++ (r.path.take k).flatMap txtB).length), (76, .islice (ptRows r.path)), (77, .int .i64 r.path.length), (78, .int .i64 k)]
theorem loop13p (r : Rg) (z : Sizes r) (b : List UInt8) (hb : b.length ≤ 40000) {σ : Env} {g : Nat} {J : Heap} (e3 : σ.get 3 = .ptr 0 0 0 0) (e6 : σ.get 6 = .slice 1 g 0 b.length) {Q : Ex → Env → Heap → Prop}
    (hQ : ∀ σ' g' J', σ'.get 6 = .slice 1 g' 0 (b ++ r.path.flatMap txtB).length → Q .normal σ' (WH r g' (b ++ r.path.flatMap txtB) J')) :
    wpC (Spec Try.prog) [] (.seq (.region m13r32 [6, 76, 77, 78]) (.block 2 (.loop [6, 76, 77, 78] m13l37))) σ (WH r g b J) Q := by
  simp [m13r32, e3, e6, WH, Rg.row]
  refine vc_loop (K13 r b) r.path.length ⟨0, g, J, rfl, by omega, by simp [WH, Rg.row], by simp⟩ ?_
  rintro m σ1 H1 ⟨k, g, J, rfl, hk, rfl, rfl⟩
  by_cases hlt : k < r.path.length
  · have hlt2 : (k : Int) < r.path.length := by omega
    have zcs := z.path
    have zi : FI (wrp .i64 ((k : Int) + 1)) (k + 1) := fi64 (by omega)
    obtain ⟨c, hc⟩ : ∃ c, c = r.path[k] := ⟨_, rfl⟩
    have zc := z.pt c (hc ▸ List.getElem_mem _)
    have hfl : ((r.path.take k).flatMap txtB).length ≤ 10 * 1002 := by
      refine Nat.le_trans (flat_le (n := 1002) _ fun c hc => ?_) ?_
      · have := z.pt c (List.mem_of_mem_take hc)
        rw [txtB_len]; omega
      · rw [List.length_take]
        exact Nat.mul_le_mul (by omega) (by omega)
    obtain ⟨B, hB⟩ : ∃ B, B = b ++ (r.path.take k).flatMap txtB := ⟨_, rfl⟩
    have hBl : B.length ≤ 60000 := by rw [hB, List.length_append]; omega
    rw [← hB]
    simp [m13l37, m13r33, m13r34, m13r35, m13r36, hlt, hlt2, iaddr_is, ← hc, WH]
    refine wh_text c rfl (by omega) (by omega) ?_
    simp [zi.o]
    have e : B ++ txtB c = b ++ (r.path.take (k + 1)).flatMap txtB := by rw [flat_take hlt, hB, ← hc, List.append_assoc]
    refine ⟨_, Nat.sub_succ_lt_self _ _ hlt, k + 1, g + gT c, J, rfl, hlt, ?_, ?_⟩
    · rw [← e]
      simp [WH]
    · rw [← e]
      simp
  · have hk2 : k = r.path.length := by omega
    subst hk2
    rw [List.take_length]
    simp [m13l37, m13r33]
    exact hQ _ _ _ (by simp)

def T13b : MCode := (.seq (.region m13r31 [3, 6]) (.seq (.seq (.region m13r32 [6, 76, 77, 78]) (.block 2 (.loop [6, 76, 77, 78] m13l37))) (.seq (.seq (.region m13r38 [6, 88]) (.cond (.tmp 88) (.seq (.region m13r39 [4, 5]) .ret) .skip)) (.seq (.region m13r40 [4, 5]) .ret))))
def T13 : MCode := (.seq (.seq (.region m13r21 [3, 6, 53, 54, 55]) (.block 0 (.loop [3, 6, 53, 54, 55] m13l30))) T13b)
section
variable (r : Rg)
@[simp] theorem rg_0 : r.row[0]? = some (.str r.aor) := by simp [Rg.row]
@[simp] theorem rg_1 : r.row[1]? = some (.str r.cid) := by simp [Rg.row]
@[simp] theorem rg_2 : r.row[2]? = some (.int .i64 r.cseq) := by simp [Rg.row]
@[simp] theorem rg_3 : r.row[3]? = some (.bool r.star) := by simp [Rg.row]
@[simp] theorem rg_4 : r.row[4]? = some (.islice (ctRows r.cs)) := by simp [Rg.row]
@[simp] theorem rg_5 : r.row[5]? = some (.int .i64 r.exp) := by simp [Rg.row]
@[simp] theorem rg_6 : r.row[6]? = some (.str r.inst) := by simp [Rg.row]
@[simp] theorem rg_7 : r.row[7]? = some (.int .i64 r.flow) := by simp [Rg.row]
@[simp] theorem rg_8 : r.row[8]? = some (.islice (ptRows r.path)) := by simp [Rg.row]
end

def encV (now : Int) (r : Rg) : AV := if okA now r then (if 4096 < (encA now r).length then .tup [.nils, .int .u8 4] else .tup [.islice (rowsU8 (encA now r)), .int .u8 0]) else .tup [.nils, .int .u8 2]
theorem fin_err {H : Heap} {k : Nat} {u : AV} {k' : Int} (hk : k' = (k : Int)) (h : u = .tup [.nils, .int .u8 k]) : Fin [] (.tup [.nils, .int .u8 k']) H u [] := by
  subst h hk
  exact fin_drop (CVs.cons (.refl .nils) (CVs.cons (.refl .int) .nil)).tup
def EQ13 (now : Int) (r : Rg) (e : Ex) (σ : Env) (H : Heap) : Prop := (e = Ex.normal ∨ e = Ex.ret) ∧ Fin [] (.tup [σ.get 4, σ.get 5]) H (encV now r) []
theorem end13 (now : Int) (r : Rg) (hok : okA now r = true) (z : Sizes r) (b : List UInt8) (hb : b.length ≤ 10000) (hbe : b ++ r.cs.flatMap encC ++ numZ r.path.length 1 ++ r.path.flatMap txtB = encA now r) {σ : Env} {g : Nat} {J : Heap}
    (e3 : σ.get 3 = .ptr 0 0 0 0) (e6 : σ.get 6 = .slice 1 g 0 b.length) : wpC (Spec Try.prog) [] T13 σ (WH r g b J) (EQ13 now r) := by
  unfold T13
  rw [wpC_seq]
  refine loop13 r z b hb e3 e6 fun σ1 g1 J1 e3 e6 => ?_
  have hfl : (r.cs.flatMap encC).length ≤ 20 * 1008 := by
    refine Nat.le_trans (flat_le (n := 1008) _ fun c hc => ?_) (Nat.mul_le_mul z.cs (Nat.le_refl _))
    have := z.ct c hc
    rw [encC_len]; omega
  obtain ⟨B, hB⟩ : ∃ B, B = b ++ r.cs.flatMap encC := ⟨_, rfl⟩
  have hBl : B.length ≤ 40000 - 10 := by rw [hB, List.length_append]; omega
  rw [← hB] at e6 hbe ⊢
  show wpC _ _ T13b σ1 _ _
  unfold T13b
  simp [m13r31, e3, e6, WH]
  refine wh_num r.path.length 1 rfl (by omega) (by omega) ?_
  simp
  refine to_seqs (loop13p r z (B ++ numZ r.path.length 1) (by simp; omega) (g := g1 + 1) (J := J1) (by simp [e3]) (by simp) fun σ2 g2 J2 e6 => ?_)
  rw [hbe] at e6 ⊢
  simp [m13r38, e6]
  refine ⟨fun h => ?_, fun h => ?_⟩
  · simp [m13r39]
    exact ⟨.inr rfl, fin_err (k := 4) rfl (by rw [encV, if_pos hok, if_pos (show 4096 < (encA now r).length by omega)]; rfl)⟩
  · simp [m13r40]
    refine ⟨.inr rfl, ?_⟩
    simp only [get_cons]
    rw [encV, if_pos hok, if_neg (show ¬4096 < (encA now r).length by omega)]
    exact fin_drop (CVs.cons (freeze_all (k := 1) (g := g2) (s := 1) (rs := rowsU8 (encA now r)) rfl (by simp) (by simp) (rowsU8_row _) (rowsU8_plain _)) (CVs.cons (.refl .int) .nil)).tup

def T13m : MCode := (.seq (.dregion m13r12 m13r13 [m13r14, m13r15, [], []] [3, 6]) (.seq (.dregion m13r16 m13r17 [m13r18, m13r19, [], []] [3, 6]) (.seq (.region m13r20 [3, 6]) T13)))
theorem mid13 (now : Int) (r : Rg) (hok : okA now r = true) (z : Sizes r) (b : List UInt8) (hb : b.length ≤ 1000) (hbe : b ++ numZ (starN r.star) 1 ++ numZ r.exp 4 ++ txtB r.inst ++ numZ r.flow 4 ++ numZ r.cs.length 1 = encH now r) {σ : Env} {g : Nat} {J : Heap}
    (e3 : σ.get 3 = .ptr 0 0 0 0) (e6 : σ.get 6 = .slice 1 g 0 b.length) (e7 : σ.get 7 = .int .i64 (starN r.star)) : wpC (Spec Try.prog) [] T13m σ (WH r g b J) (EQ13 now r) := by
  have zi := z.inst
  have hle := congrArg List.length hbe
  simp at hle
  unfold T13m
  simp [m13r12, m13r13, m13r14, m13r15, e3, e6, e7, WH]
  refine wh_num (starN r.star) 1 rfl (by omega) (by omega) ?_
  simp
  refine wh_num r.exp 4 (by simp) (by omega) (by simp; omega) ?_
  simp [m13r16, m13r17, m13r18, m13r19, e3]
  refine wh_text r.inst (by simp) (by omega) (by simp; omega) ?_
  simp
  refine wh_num r.flow 4 (by simp; omega) (by omega) (by simp; omega) ?_
  simp [m13r20]
  refine wh_num r.cs.length 1 (by simp; omega) (by omega) (by simp; omega) ?_
  simp
  simp at hbe
  rw [hbe]
  refine end13 now r hok z (encH now r) (by omega) rfl (by simp) ?_
  simp
  omega

theorem enc13 (now : Int) (r : Rg) (hl : r.cs.length ≤ 1000) (hp : r.path.length ≤ 1000) : Spec Try.prog 13 [.int .i64 now, .agg r.row] [] (encV now r) [] := by
  refine spec_of_wp (C := Spec Try.prog) (fun _ _ _ _ _ h => h) mixed m13_ok (show 2 ≤ _ by decide) ?_
  unfold m13
  simp +contextual [m13r0, m13r1, envOf, -condK_bool]
  refine vc_call ((formed11 r hl hp).frame (Cls.cons (cl_rg _) .nil) .bool _) ?_
  simp +contextual [-condK_bool]
  refine gdG_call (fun _ => (within29 now 0 1099511627776).frame (Cls.cons .int (Cls.cons .int (Cls.cons .int .nil))) .bool _) ?_
  simp +contextual [-condK_bool]
  refine condK_of (y := !okA now r) (by simp [okA]) (fun h => ?_) (fun h => ?_)
  · simp [m13r2]
    exact fin_err (k := 2) rfl (by rw [encV, if_neg (by simpa using h)]; rfl)
  have hok : okA now r = true := by simpa using h
  have hf : formedB r = true := by
    simp only [okA, Bool.and_eq_true] at hok
    exact hok.1
  have z := sizes hf
  simp [m13r3, m13r4, m13r5, m13r6, m13r7]
  refine vc_call (num_nil _ now 8 (by omega) (by omega)) ?_
  simp
  refine wh_text r.aor (by simp) (by have := z.aor; omega) (by simp) ?_
  simp
  refine wh_text r.cid (by simp) (by have := z.cid; omega) (by have := z.aor; simp; omega) ?_
  simp [m13r8]
  refine wh_num r.cseq 4 (by simp; omega) (by omega) (by have := z.aor; have := z.cid; simp; omega) ?_
  simp [m13r9, m13r10, m13r11]
  have hb : (numZ now 8 ++ (txtB r.aor ++ (txtB r.cid ++ numZ r.cseq 4))).length ≤ 1000 := by
    have := z.aor
    have := z.cid
    simp
    omega
  have he : (numZ now 8 ++ (txtB r.aor ++ (txtB r.cid ++ numZ r.cseq 4))) ++ numZ (starN r.star) 1 ++ numZ r.exp 4 ++ txtB r.inst ++ numZ r.flow 4 ++ numZ r.cs.length 1 = encH now r := by simp [encH]
  refine ⟨fun hs => ?_, fun hs => ?_⟩
  · exact to_seqd (mid13 now r hok z _ hb he (by simp) (by simp; omega) (by simp [starN, hs]))
  · exact to_seqd (mid13 now r hok z _ hb he (by simp) (by simp; omega) (by simp [starN, hs]))
end Go.Ab.Try.S

/- Reading an act, the program's closures. Conditions: none. -/
namespace Go.Ab.Try.S
open Go.Proofs

structure PS where
  b : List UInt8
  short : Bool
def stepN (n : Int) (c : UInt8) : Int := wrp .i64 (n * 256 + c.toNat)
def numOf (l : List UInt8) : Int := l.foldl stepN 0
def bad (n : Int) (s : PS) : Bool := s.short || decide ((s.b.length : Int) < n)
def nx (size : Nat) (s : PS) : Int × PS := if bad size s then (0, ⟨s.b, true⟩) else (numOf (s.b.take size), ⟨s.b.drop size, false⟩)
def tkS (n : Int) (s : PS) : List UInt8 × PS := if bad n s then ([], ⟨s.b, true⟩) else (s.b.take n.toNat, ⟨s.b.drop n.toNat, false⟩)
def wd (s : PS) : List UInt8 × PS := tkS (nx 2 s).1 (nx 2 s).2
def sg (s : PS) : Int × PS := (wrp .i32 (nx 4 s).1, (nx 4 s).2)

def DH (s : PS) (x1 : ABlk) (J : Heap) : Heap := .rows 0 1 [[.islice (rowsU8 s.b)]] :: x1 :: .rows 0 1 [[.bool s.short]] :: J

theorem shl_or (n : Int) (c : UInt8) : wrp .i64 (((toU .i64 (wrp .i64 (n * 256)) ||| toU .i64 (c.toNat : Int) : Nat)) : Int) = stepN n c := by
  have hc := c.toNat_lt
  have e1 : toU .i64 (c.toNat : Int) = c.toNat := by simp only [toU]; omega
  obtain ⟨q, hq⟩ : ∃ q, toU .i64 (wrp .i64 (n * 256)) = 2 ^ 8 * q := ⟨toU .i64 (wrp .i64 (n * 256)) / 256, by simp only [toU, wrp]; omega⟩
  rw [e1, hq, ← Nat.two_pow_add_eq_or_of_lt (by omega), ← hq]
  unfold stepN
  simp only [toU, wrp]
  omega

theorem rowsU8_take (b : List UInt8) (n : Nat) : (rowsU8 b).take n = rowsU8 (b.take n) := by simp [rowsU8, List.map_take]
theorem rowsU8_drop (b : List UInt8) (n : Nat) : (rowsU8 b).drop n = rowsU8 (b.drop n) := by simp [rowsU8, List.map_drop]
theorem numOf_take {d : List UInt8} {k : Nat} (h : k < d.length) : numOf (d.take (k + 1)) = stepN (numOf (d.take k)) d[k] := by
  unfold numOf
  rw [List.take_succ_eq_append_getElem h, List.foldl_append]
  rfl
def I37 (d : List UInt8) (size : Nat) (H0 : Heap) (m : Nat) (σ : Env) (H : Heap) : Prop := ∃ k : Nat, m = size - k ∧ k ≤ size ∧ H = H0 ∧
  σ = [(0, .int .i64 size), (2, .ptr 0 0 0 0), (5, .int .i64 (numOf (d.take k))), (17, .islice (rowsU8 d)), (18, .int .i64 size), (19, .int .i64 k)]

theorem next37 (s : PS) (size : Nat) (hs : size ≤ 8) (hb : s.b.length ≤ 1000000) (x1 : ABlk) (J : Heap) :
    Spec Try.prog 37 [.int .i64 size, .ptr 2 0 0 0, .ptr 0 0 0 0] (DH s x1 J) (.int .i64 (nx size s).1) (DH (nx size s).2 x1 J) := by
  refine spec_of_wp (C := Spec Try.prog) (fun _ _ _ _ _ h => h) mixed m37_ok (show 3 ≤ _ by decide) ?_
  unfold m37
  simp +contextual [m37r0, m37r1, envOf, DH, -condK_bool]
  refine condK_of (y := bad size s) (by simp [bad]) (fun h => ?_) (fun h => ?_)
  · simp [m37r2, m37r3]
    have e : nx size s = (0, ⟨s.b, true⟩) := by unfold nx; rw [if_pos h]
    rw [e]
    exact Fin.refl _ _ _
  · have h2 : s.short = false ∧ size ≤ s.b.length := by
      simp only [bad, Bool.or_eq_false_iff, decide_eq_false_iff_not] at h
      exact ⟨h.1, by omega⟩
    have e : nx size s = (numOf (s.b.take size), ⟨s.b.drop size, false⟩) := by unfold nx; rw [if_neg (by simp [h])]
    simp [m37r4, m37r5, h2]
    refine ⟨rowsU8_row _, ?_⟩
    rw [rowsU8_take, e]
    have hd : (s.b.take size).length = size := by simp; omega
    generalize s.b.take size = d at hd ⊢
    refine vc_loop (I37 d size _) size ⟨0, rfl, by omega, rfl, rfl⟩ ?_
    rintro m σ1 H1 ⟨k, rfl, hk, rfl, rfl⟩
    by_cases hlt : k < size
    · have hlt2 : (k : Int) < size := by omega
      have hlt3 : k < d.length := by omega
      have zi : FI (wrp .i64 ((k : Int) + 1)) (k + 1) := fi64 (by omega)
      have zc : FI (wrp .i64 ((d[k].toNat : Int))) d[k].toNat := fi64 (by have := d[k].toNat_lt; omega)
      simp [m37l10, m37r6, m37r7, m37r8, m37r9, hlt, hlt2, iaddr_is, hd, zi.o, bitsOf]
      have hso := shl_or (numOf (d.take k)) d[k]
      refine ⟨_, Nat.sub_succ_lt_self _ _ hlt, k + 1, rfl, hlt, rfl, ?_⟩
      rw [numOf_take hlt3, ← hso]
      have hg : gb d k = d[k].toNat := by simp [gb, hlt3]
      rw [hg, zc.o]
      simp
    · have hk2 : k = size := by omega
      subst hk2
      have e2 : d.take k = d := List.take_of_length_le (by omega)
      simp [m37l10, m37r6, m37r11, m37r12, h2, e2]
      refine ⟨rowsU8_row _, ?_⟩
      rw [rowsU8_drop, List.take_of_length_le (by simp)]
      exact Fin.refl _ _ _

def NB : ABlk := .rows 0 1 [[.func 37 [] [.ptr 2 0 0 0, .ptr 0 0 0 0]]]
theorem nx_len (size : Nat) (s : PS) : (nx size s).2.b.length ≤ s.b.length := by
  unfold nx
  split <;> simp
theorem tkS_len (n : Int) (s : PS) : (tkS n s).2.b.length ≤ s.b.length := by
  unfold tkS
  split <;> simp
theorem wd_len (s : PS) : (wd s).2.b.length ≤ s.b.length := Nat.le_trans (tkS_len _ _) (nx_len _ _)
theorem sg_len (s : PS) : (sg s).2.b.length ≤ s.b.length := nx_len 4 s
theorem dn_next {s : PS} {x1 : ABlk} {J : Heap} {K : AV → Heap → Prop} (size : Nat) (hs : size ≤ 8) (hb : s.b.length ≤ 1000000) (k : K (.int .i64 (nx size s).1) (DH (nx size s).2 x1 J)) : callK (Spec Try.prog) 37 [.int .i64 size, .ptr 2 0 0 0, .ptr 0 0 0 0] (DH s x1 J) K :=
  vc_call (next37 s size hs hb x1 J) k
theorem stp1 {n : Int} {c : Nat} {m : Int} (hc : c < 256) (h0 : 0 ≤ n) (h1 : n < m) (hm : m ≤ 4294967296) : -9223372036854775808 ≤ n * 256 + (c : Int) ∧ n * 256 + (c : Int) < 9223372036854775808 := by
  omega
theorem stp2 {n : Int} {c : UInt8} {m : Int} (h0 : 0 ≤ n) (h1 : n < m) (hm : m ≤ 4294967296) : stepN n c = n * 256 + c.toNat := wrp_i64 (stp1 c.toNat_lt h0 h1 hm)
theorem stp3 {n : Int} {c : Nat} {m : Int} (hc : c < 256) (h0 : 0 ≤ n) (h1 : n < m) : 0 ≤ n * 256 + (c : Int) ∧ n * 256 + (c : Int) < m * 256 := by
  omega
theorem stepN_pos {n : Int} {c : UInt8} {m : Int} (h0 : 0 ≤ n) (h1 : n < m) (hm : m ≤ 4294967296) : 0 ≤ stepN n c ∧ stepN n c < m * 256 ∧ stepN n c = n * 256 + c.toNat := by
  have := stp3 c.toNat_lt h0 h1
  rw [stp2 h0 h1 hm]
  exact ⟨this.1, this.2, rfl⟩
theorem stp4 {n : Int} {c : UInt8} {m k : Int} (h0 : 0 ≤ n) (h1 : n < m) (hm : m ≤ 4294967296) (hk : m * 256 = k) : 0 ≤ stepN n c ∧ stepN n c < k := by
  have := stepN_pos (c := c) h0 h1 hm
  rw [hk] at this
  exact ⟨this.1, this.2.1⟩
theorem two_nums (a b : UInt8) : 0 ≤ stepN (stepN 0 a) b ∧ stepN (stepN 0 a) b < 65536 := by
  have h1 : 0 ≤ stepN 0 a ∧ stepN 0 a < 256 := stp4 (m := 1) (by omega) (by omega) (by omega) (by omega)
  exact stp4 (m := 256) h1.1 h1.2 (by omega) (by omega)
theorem two_of : ∀ (l : List UInt8), ¬((l.length : Int) < 2) → ∃ a b t, l = a :: b :: t
  | [], h => by simp at h
  | [_], h => by simp at h
  | a :: b :: t, _ => ⟨a, b, t, rfl⟩
theorem fold2 {f : Int → UInt8 → Int} (a b : UInt8) (t : List UInt8) (z : Int) : (List.take 2 (a :: b :: t)).foldl f z = f (f z a) b := rfl
theorem numOf2 (a b : UInt8) (t : List UInt8) : numOf (List.take 2 (a :: b :: t)) = stepN (stepN 0 a) b := by
  unfold numOf
  exact fold2 a b t 0
theorem nx2 (s : PS) : 0 ≤ (nx 2 s).1 ∧ (nx 2 s).1 < 65536 := by
  by_cases h : bad (2 : Nat) s = true
  · have e : nx 2 s = (0, ⟨s.b, true⟩) := by unfold nx; rw [if_pos h]
    rw [e]
    simp
  · have e : nx 2 s = (numOf (s.b.take 2), ⟨s.b.drop 2, false⟩) := by unfold nx; rw [if_neg h]
    have h2 : ¬((s.b.length : Int) < 2) := fun hl => h (by simp [bad]; exact .inr (by omega))
    obtain ⟨a, b, t, hl⟩ := two_of _ h2
    rw [e, hl]
    simp only [numOf2]
    exact two_nums a b

theorem word38 (s : PS) (hb : s.b.length ≤ 1000000) (x1 : ABlk) (J : Heap) :
    Spec Try.prog 38 [.ptr 3 0 0 0, .ptr 2 0 0 0, .ptr 0 0 0 0] (DH s x1 (NB :: J)) (.str (wd s).1) (DH (wd s).2 x1 (NB :: J)) := by
  refine spec_of_wp (C := Spec Try.prog) (fun _ _ _ _ _ h => h) mixed m38_ok (show 3 ≤ _ by decide) ?_
  unfold m38
  have n2 := nx2 s
  have nl := nx_len 2 s
  have ew : wd s = tkS (nx 2 s).1 (nx 2 s).2 := rfl
  obtain ⟨n, s1, hns⟩ : ∃ n s1, nx 2 s = (n, s1) := ⟨_, _, rfl⟩
  rw [hns] at n2 nl ew
  simp only at n2 nl ew
  rw [ew]
  simp [m38r0, m38r1, envOf]
  refine W_of (a := [AV.func 37 [] [.ptr 2 0 0 0, .ptr 0 0 0 0]]) (by simp [DH, NB]) ?_
  simp
  refine dn_next 2 (by omega) hb ?_
  rw [hns]
  simp +contextual [m38r2, DH, -condK_bool]
  refine condK_of (y := bad n s1) (by simp [bad]) (fun h => ?_) (fun h => ?_)
  · simp [m38r3, m38r4]
    have e : tkS n s1 = ([], ⟨s1.b, true⟩) := by unfold tkS; rw [if_pos h]
    rw [e]
    exact Fin.refl _ _ _
  · have h2 : s1.short = false ∧ n ≤ s1.b.length := by
      simp only [bad, Bool.or_eq_false_iff, decide_eq_false_iff_not] at h
      exact ⟨h.1, by omega⟩
    have e : tkS n s1 = (s1.b.take n.toNat, ⟨s1.b.drop n.toNat, false⟩) := by unfold tkS; rw [if_neg (by simp [h])]
    have hn3 : n.toNat ≤ s1.b.length := by omega
    rw [e]
    simp [m38r5, h2, n2]
    refine ⟨rowsU8_row _, ?_⟩
    rw [rowsU8_take]
    refine W_of (bytesOf_rowsU8 _) ?_
    simp [m38r6, n2, h2, m38r7]
    refine ⟨rowsU8_row _, ?_⟩
    rw [rowsU8_drop, List.take_of_length_le (l := rowsU8 (List.drop n.toNat s1.b)) (by rw [rowsU8_len, List.length_drop]; omega)]
    exact Fin.refl _ _ _

theorem signed39 (s : PS) (hb : s.b.length ≤ 1000000) (x1 : ABlk) (J : Heap) :
    Spec Try.prog 39 [.ptr 3 0 0 0] (DH s x1 (NB :: J)) (.int .i64 (sg s).1) (DH (sg s).2 x1 (NB :: J)) := by
  refine spec_of_wp (C := Spec Try.prog) (fun _ _ _ _ _ h => h) mixed m39_ok (show 1 ≤ _ by decide) ?_
  unfold m39
  simp [m39r0, m39r1, envOf]
  refine W_of (a := [AV.func 37 [] [.ptr 2 0 0 0, .ptr 0 0 0 0]]) (by simp [DH, NB]) ?_
  simp
  refine dn_next 4 (by omega) hb ?_
  simp
  rw [wrp_i64 (by simp only [wrp]; omega)]
  exact Fin.refl _ _ _
end Go.Ab.Try.S

/- DecodeAct by the program. Conditions: none. -/
namespace Go.Ab.Try.S
open Go.Proofs

/-- A slice of the call's own at a known place, nil as long as it is empty. -/
def AccC (sz base : Nat) (l : List Row) (c : AV) (J : Heap) : Prop := (l = [] ∧ c = .nils ∧ J = []) ∨ ∃ g, l ≠ [] ∧ c = .slice base g 0 l.length ∧ J = [.rows g sz l]
theorem accC_app {P J : Heap} {sz base bytes : Nat} {l : List Row} {c : AV} {row : Row} (h : AccC sz base l c J) (hP : P.length = base) (hr : row.length = sz) (hroom : (l.length + 1) * bytes ≤ roomB) {K : AV × Heap → Prop}
    (k : ∀ c' J', AccC sz base (l ++ [row]) c' J' → K (c', P ++ J')) : W (appendAV (P ++ J) sz bytes c (.islice [row])) K := by
  rcases h with ⟨rfl, rfl, rfl⟩ | ⟨g, hne, rfl, rfl⟩
  · refine W_of (append_nil (row := row) (rest := []) rfl (by simpa using hr) (by simpa using hroom)) ?_
    have := k (.slice base 0 0 1) [.rows 0 sz [row]] (.inr ⟨0, by simp, rfl, rfl⟩)
    simpa [hP] using this
  · have ha := append_one (H := P ++ [.rows g sz l]) (r := base) (g := g) (sz := sz) (bytes := bytes) (x := .islice [row]) (rs := l) (row := row) (by simp [← hP]) rfl hr hroom
    refine W_of ha ?_
    have := k (.slice base (g + 1) 0 (l.length + 1)) [.rows (g + 1) sz (l ++ [row])] (.inr ⟨g + 1, by simp, by simp, rfl⟩)
    rw [List.set_append_right _ _ (by omega)]
    simpa [hP] using this
theorem AccC.to {P J J' : Heap} {sz base : Nat} {l : List Row} {c : AV} (h : AccC sz base l c J) (hP : P.length = base) : AccL sz l c (P ++ (J ++ J')) := by
  rcases h with ⟨rfl, rfl, rfl⟩ | ⟨g, hne, rfl, rfl⟩
  · exact .inl ⟨rfl, rfl⟩
  · exact .inr ⟨base, g, rfl, by simp [← hP]⟩

theorem AccC.cells {sz base : Nat} {l : List Row} {c : AV} {J : Heap} (h : AccC sz base l c J) : c.cells = [c] ∧ c.sc = true := by
  rcases h with ⟨rfl, rfl, rfl⟩ | ⟨g, hne, rfl, rfl⟩ <;> exact ⟨rfl, rfl⟩

def cts : Nat → PS → List Ct × PS
  | 0, s => ([], s)
  | n + 1, s => if s.short then ([], s) else (⟨(wd s).1, (nx 2 (wd s).2).1, (sg (nx 2 (wd s).2).2).1⟩ :: (cts n (sg (nx 2 (wd s).2).2).2).1, (cts n (sg (nx 2 (wd s).2).2).2).2)
def pts : Nat → PS → List (List UInt8) × PS
  | 0, s => ([], s)
  | n + 1, s => if s.short then ([], s) else ((wd s).1 :: (pts n (wd s).2).1, (pts n (wd s).2).2)

def zrow : Row := [.str [], .str [], .int .i64 0, .bool false, .nils, .int .i64 0, .str [], .int .i64 0, .nils]
def errV (k : Int) : AV := .tup [.int .i64 0, .agg zrow, .int .u8 k]
def endV (now star : Int) (r : Rg) (s : PS) : AV := if s.short then errV 6 else if decide (0 < s.b.length) || decide (1 < star) || !formedB r || !wi now 0 1099511627776 then errV 5 else .tup [.int .i64 now, .agg r.row, .int .u8 0]
def decT (now star : Int) (x : Rg) (s : PS) : AV :=
  endV now star { x with cs := (cts (nx 1 s).1.toNat (nx 1 s).2).1, path := (pts (nx 1 (cts (nx 1 s).1.toNat (nx 1 s).2).2).1.toNat (nx 1 (cts (nx 1 s).1.toNat (nx 1 s).2).2).2).1 } (pts (nx 1 (cts (nx 1 s).1.toNat (nx 1 s).2).2).1.toNat (nx 1 (cts (nx 1 s).1.toNat (nx 1 s).2).2).2).2

/-- The cells of the registration that is read. -/
def rowC (x : Rg) (c4 c8 : AV) : Row := [.str x.aor, .str x.cid, .int .i64 x.cseq, .bool x.star, c4, .int .i64 x.exp, .str x.inst, .int .i64 x.flow, c8]
def FW : AV := .func 38 [] [.ptr 3 0 0 0, .ptr 2 0 0 0, .ptr 0 0 0 0]
def FG : AV := .func 39 [] [.ptr 3 0 0 0]
def ZB : ABlk := .rows 0 9 [zrow]
def DR (x : Rg) (c4 c8 : AV) (s : PS) (J : Heap) : Heap := DH s ZB (NB :: .rows 0 9 [rowC x c4 c8] :: J)
theorem dn_word {s : PS} {x1 : ABlk} {J : Heap} {K : AV → Heap → Prop} (hb : s.b.length ≤ 1000000) (k : K (.str (wd s).1) (DH (wd s).2 x1 (NB :: J))) : callK (Spec Try.prog) 38 [.ptr 3 0 0 0, .ptr 2 0 0 0, .ptr 0 0 0 0] (DH s x1 (NB :: J)) K :=
  vc_call (word38 s hb x1 J) k
theorem dn_signed {s : PS} {x1 : ABlk} {J : Heap} {K : AV → Heap → Prop} (hb : s.b.length ≤ 1000000) (k : K (.int .i64 (sg s).1) (DH (sg s).2 x1 (NB :: J))) : callK (Spec Try.prog) 39 [.ptr 3 0 0 0] (DH s x1 (NB :: J)) K :=
  vc_call (signed39 s hb x1 J) k

def L15 (x : Rg) (now star : Int) (n0 : Nat) (s0 : PS) (m : Nat) (σ : Env) (H : Heap) : Prop := ∃ (n : Nat) (s : PS) (acc : List Ct) (c4 : AV) (J : Heap), m = n ∧ s.b.length ≤ 1000000 ∧ acc.length + n ≤ 255 ∧ cts n0 s0 = (acc ++ (cts n s).1, (cts n s).2) ∧ AccC 3 5 (ctRows acc) c4 J ∧ H = DR x c4 .nils s J ∧
  σ = [(1, .ptr 0 0 0 0), (3, .ptr 1 0 0 0), (5, .ptr 2 0 0 0), (6, .ptr 3 0 0 0), (7, FW), (8, FG), (9, .int .i64 now), (10, .ptr 4 0 0 0), (11, .int .i64 star), (12, .int .i64 n)]
structure GS (σ : Env) (now star : Int) : Prop where
  g1 : σ.get 1 = .ptr 0 0 0 0
  g3 : σ.get 3 = .ptr 1 0 0 0
  g5 : σ.get 5 = .ptr 2 0 0 0
  g6 : σ.get 6 = .ptr 3 0 0 0
  g7 : σ.get 7 = FW
  g8 : σ.get 8 = FG
  g9 : σ.get 9 = .int .i64 now
  g10 : σ.get 10 = .ptr 4 0 0 0
  g11 : σ.get 11 = .int .i64 star
theorem loop15 (x : Rg) (now star : Int) (n0 : Nat) (hn : n0 ≤ 255) (s0 : PS) (hb : s0.b.length ≤ 1000000) {Q : Ex → Env → Heap → Prop} {base : Heap}
    (hQ : ∀ σ c4 J, (cts n0 s0).2.b.length ≤ 1000000 → AccC 3 5 (ctRows (cts n0 s0).1) c4 J → GS σ now star → Q .normal σ (DR x c4 .nils (cts n0 s0).2 J)) :
    wpC (Spec Try.prog) base (.loop [1, 3, 5, 6, 7, 8, 9, 10, 11, 12] m15l21) [(1, .ptr 0 0 0 0), (3, .ptr 1 0 0 0), (5, .ptr 2 0 0 0), (6, .ptr 3 0 0 0), (7, FW), (8, FG), (9, .int .i64 now), (10, .ptr 4 0 0 0), (11, .int .i64 star), (12, .int .i64 n0)] (DR x .nils .nils s0 []) (blkK 0 Q) := by
  refine vc_loop (L15 x now star n0 s0) n0 ⟨n0, s0, [], .nils, [], rfl, hb, by simpa using hn, by simp, .inl ⟨rfl, rfl, rfl⟩, rfl, by simp⟩ ?_
  rintro m σ H ⟨n, s, acc, c4, J, rfl, hb, hn, hc, hacc, rfl, rfl⟩
  simp +contextual [m15l21, m15r11, DR, DH, -condK_bool]
  by_cases hm : 0 < m ∧ s.short = false
  · obtain ⟨n, rfl⟩ : ∃ n, m = n + 1 := ⟨m - 1, by omega⟩
    have ec : cts (n + 1) s = (⟨(wd s).1, (nx 2 (wd s).2).1, (sg (nx 2 (wd s).2).2).1⟩ :: (cts n (sg (nx 2 (wd s).2).2).2).1, (cts n (sg (nx 2 (wd s).2).2).2).2) := by
      rw [cts, if_neg (by simp [hm.2])]
    have l1 := wd_len s
    have l2 := nx_len 2 (wd s).2
    have l3 := sg_len (nx 2 (wd s).2).2
    have zi : FI (wrp .i64 ((n : Int))) n := fi64 (by omega)
    refine condK_of (y := true) (by simp [hm.2]) (fun _ => ?_) (fun h => by cases h)
    simp [m15r12, m15r13, m15r14, m15r15, m15r16, m15r17, m15r18, m15r19, NB, FW, FG, rowC]
    refine dn_word hb ?_
    simp [DH, NB]
    refine dn_next 2 (by omega) (by omega) ?_
    simp [DH]
    refine dn_signed (by omega) ?_
    simp [DH, NB, fillRows]
    obtain ⟨c, hcd⟩ : ∃ c : Ct, c = ⟨(wd s).1, (nx 2 (wd s).2).1, (sg (nx 2 (wd s).2).2).1⟩ := ⟨_, rfl⟩
    refine accC_app (P := [.rows 0 1 [[.islice (rowsU8 (sg (nx 2 (wd s).2).2).2.b)]], ZB, .rows 0 1 [[.bool (sg (nx 2 (wd s).2).2).2.short]], NB, .rows 0 9 [rowC x c4 .nils]]) (row := Ct.row ⟨(wd s).1, (nx 2 (wd s).2).1, (sg (nx 2 (wd s).2).2).1⟩) (bytes := 32) hacc rfl rfl (by simp [roomB]; omega) fun c' J' hacc' => ?_
    rw [← hcd] at hacc'
    have hcl := hacc'.cells
    simp [hcl, m15r20, zi.o, rowC]
    refine ⟨n, by omega, n, (sg (nx 2 (wd s).2).2).2, acc ++ [c], c', J', rfl, by omega, by simp; omega, ?_, by simpa [ctRows] using hacc', ?_, ?_⟩
    · rw [hc, ec, ← hcd]
      simp
    · simp [DR, DH, rowC]
    · simp [FW, FG]
  · refine condK_of (y := false) ?_ (fun h => by cases h) (fun _ => ?_)
    · by_cases h0 : 0 < m
      · have : s.short = true := by
          cases hs : s.short with
          | true => rfl
          | false => exact absurd ⟨h0, hs⟩ hm
        simp [this]
      · simp [h0]
    · have ec : cts m s = ([], s) := by
        match m, hm with
        | 0, _ => rfl
        | n + 1, hm =>
          have : s.short = true := by
            cases hs : s.short with
            | true => rfl
            | false => exact absurd ⟨by omega, hs⟩ hm
          rw [cts, if_pos this]
      rw [ec] at hc
      simp at hc
      have := hQ
      rw [hc] at this
      exact this _ c4 J hb hacc ⟨rfl, rfl, rfl, rfl, rfl, rfl, rfl, rfl, rfl⟩
/-! ### the path -/
def DR2 (x : Rg) (c4 c8 : AV) (s : PS) (J J2 : Heap) : Heap := DH s ZB (NB :: .rows 0 9 [rowC x c4 c8] :: (J ++ J2))
structure GT (σ : Env) (now star : Int) : Prop where
  g1 : σ.get 1 = .ptr 0 0 0 0
  g3 : σ.get 3 = .ptr 1 0 0 0
  g5 : σ.get 5 = .ptr 2 0 0 0
  g7 : σ.get 7 = FW
  g9 : σ.get 9 = .int .i64 now
  g10 : σ.get 10 = .ptr 4 0 0 0
  g11 : σ.get 11 = .int .i64 star
def M15 (x : Rg) (now star : Int) (n0 : Nat) (s0 : PS) (c4 : AV) (J : Heap) (m : Nat) (σ : Env) (H : Heap) : Prop := ∃ (n : Nat) (s : PS) (acc : List (List UInt8)) (c8 : AV) (J2 : Heap), m = n ∧ s.b.length ≤ 1000000 ∧ acc.length + n ≤ 255 ∧ pts n0 s0 = (acc ++ (pts n s).1, (pts n s).2) ∧ AccC 1 (5 + J.length) (ptRows acc) c8 J2 ∧ H = DR2 x c4 c8 s J J2 ∧
  σ = [(1, .ptr 0 0 0 0), (3, .ptr 1 0 0 0), (5, .ptr 2 0 0 0), (7, FW), (9, .int .i64 now), (10, .ptr 4 0 0 0), (11, .int .i64 star), (13, .int .i64 n)]
theorem loop15p (x : Rg) (now star : Int) (n0 : Nat) (hn : n0 ≤ 255) (s0 : PS) (hb : s0.b.length ≤ 1000000) (c4 : AV) (J : Heap) {Q : Ex → Env → Heap → Prop} {base : Heap}
    (hQ : ∀ σ c8 J2, AccC 1 (5 + J.length) (ptRows (pts n0 s0).1) c8 J2 → GT σ now star → Q .normal σ (DR2 x c4 c8 (pts n0 s0).2 J J2)) :
    wpC (Spec Try.prog) base (.loop [1, 3, 5, 7, 9, 10, 11, 13] m15l31) [(1, .ptr 0 0 0 0), (3, .ptr 1 0 0 0), (5, .ptr 2 0 0 0), (7, FW), (9, .int .i64 now), (10, .ptr 4 0 0 0), (11, .int .i64 star), (13, .int .i64 n0)] (DR x c4 .nils s0 J) (blkK 2 Q) := by
  refine vc_loop (M15 x now star n0 s0 c4 J) n0 ⟨n0, s0, [], .nils, [], rfl, hb, by simpa using hn, by simp, .inl ⟨rfl, rfl, rfl⟩, by simp [DR2, DR], by simp⟩ ?_
  rintro m σ H ⟨n, s, acc, c8, J2, rfl, hb, hn, hc, hacc, rfl, rfl⟩
  simp +contextual [m15l31, m15r23, DR2, DH, -condK_bool]
  by_cases hm : 0 < m ∧ s.short = false
  · obtain ⟨n, rfl⟩ : ∃ n, m = n + 1 := ⟨m - 1, by omega⟩
    have ec : pts (n + 1) s = ((wd s).1 :: (pts n (wd s).2).1, (pts n (wd s).2).2) := by
      rw [pts, if_neg (by simp [hm.2])]
    have l1 := wd_len s
    have zi : FI (wrp .i64 ((n : Int))) n := fi64 (by omega)
    refine condK_of (y := true) (by simp [hm.2]) (fun _ => ?_) (fun h => by cases h)
    simp [m15r24, m15r25, m15r26, m15r27, m15r28, m15r29, NB, FW, rowC]
    refine dn_word hb ?_
    simp [DH, NB, fillRows]
    refine accC_app (P := [.rows 0 1 [[.islice (rowsU8 (wd s).2.b)]], ZB, .rows 0 1 [[.bool (wd s).2.short]], NB, .rows 0 9 [rowC x c4 c8]] ++ J) (row := ptRow (wd s).1) (bytes := 16) hacc (by simp; omega) rfl (by simp [roomB]; omega) fun c' J' hacc' => ?_
    have hcl := hacc'.cells
    simp [hcl, m15r30, zi.o, rowC]
    refine ⟨n, by omega, n, (wd s).2, acc ++ [(wd s).1], c', J', rfl, by omega, by simp; omega, ?_, by simpa [ptRows] using hacc', ?_, ?_⟩
    · rw [hc, ec]
      simp
    · simp [DR2, DH, rowC]
    · simp [FW]
  · refine condK_of (y := false) ?_ (fun h => by cases h) (fun _ => ?_)
    · by_cases h0 : 0 < m
      · have : s.short = true := by
          cases hs : s.short with
          | true => rfl
          | false => exact absurd ⟨h0, hs⟩ hm
        simp [this]
      · simp [h0]
    · have ec : pts m s = ([], s) := by
        match m, hm with
        | 0, _ => rfl
        | n + 1, hm =>
          have : s.short = true := by
            cases hs : s.short with
            | true => rfl
            | false => exact absurd ⟨by omega, hs⟩ hm
          rw [pts, if_pos this]
      rw [ec] at hc
      simp at hc
      have := hQ
      rw [hc] at this
      exact this _ c8 J2 hacc ⟨rfl, rfl, rfl, rfl, rfl, rfl, rfl⟩
end Go.Ab.Try.S

/- DecodeAct by the program, its result. Conditions: none. -/
namespace Go.Ab.Try.S
open Go.Proofs

/-! ### lent lists of values -/
def Lends (H : Heap) (cs cs' : List AV) : Prop := cs'.length = cs.length ∧ ∀ (i : Nat) c c', cs[i]? = some c → cs'[i]? = some c' → Lend H c c'
theorem Lends.nil {H : Heap} : Lends H [] [] := ⟨rfl, by simp⟩
theorem Lends.cons {H : Heap} {c c' : AV} {cs cs' : List AV} (h : Lend H c c') (hs : Lends H cs cs') : Lends H (c :: cs) (c' :: cs') := by
  refine ⟨by simp [hs.1], fun i a a' h1 h2 => ?_⟩
  match i with
  | 0 => simp at h1 h2; subst h1 h2; exact h
  | i + 1 => simp at h1 h2; exact hs.2 i a a' h1 h2
theorem Lends.agg {H : Heap} {cs cs' : List AV} (h : Lends H cs cs') : Lend H (.agg cs) (.agg cs') := .agg h.1 h.2
theorem accL_lend {H : Heap} {sz : Nat} {l : List Row} {c : AV} (h : AccL sz l c H) (hp : Plain l) : Lend H c (.islice l) := by
  rcases h with ⟨rfl, rfl⟩ | ⟨r, g, rfl, hr⟩
  · exact .nils
  · refine .slice (by simp [rowsOf_of hr]) fun i row j c h1 h2 => (hp row (List.mem_of_getElem? h1) c (List.mem_of_getElem? h2)).2

def T15c : MCode := (.seq (.seq (.region m15r32 [1, 3, 9, 10, 11, 79]) (.cond (.tmp 79) (.seq (.region m15r33 [2, 3, 4]) .ret) .skip)) (.seq (.seq (.region m15r34 [3, 9, 10, 97]) (.cond (.tmp 97) (.seq (.region m15r35 [2, 3, 4]) .ret) .skip)) (.seq (.dregion m15r36 m15r37 [m15r38, m15r39, [], []] [2, 3, 4]) .ret)))
def T15b : MCode := (.seq (.seq (.region m15r22 [1, 3, 5, 7, 9, 10, 11, 13]) (.block 2 (.loop [1, 3, 5, 7, 9, 10, 11, 13] m15l31))) T15c)
def T15 : MCode := (.seq (.seq (.region m15r10 [1, 3, 5, 6, 7, 8, 9, 10, 11, 12]) (.block 0 (.loop [1, 3, 5, 6, 7, 8, 9, 10, 11, 12] m15l21))) T15b)

def EQ15 (v : AV) (e : Ex) (σ : Env) (H1 : Heap) : Prop := (e = Ex.normal ∨ e = Ex.ret) ∧ ∃ vs, (((loadAV H1 (some 9) (σ.get 3)).bind fun v => some [v, σ.get 4]).bind fun vs => some (σ.get 2 :: vs)) = some vs ∧ Fin [] (oneOf vs) H1 v []
theorem fold1 {f : Int → UInt8 → Int} (a : UInt8) (t : List UInt8) (z : Int) : (List.take 1 (a :: t)).foldl f z = f z a := rfl
theorem nx1 (s : PS) : 0 ≤ (nx 1 s).1 ∧ (nx 1 s).1 < 256 := by
  by_cases h : bad (1 : Nat) s = true
  · have e : nx 1 s = (0, ⟨s.b, true⟩) := by unfold nx; rw [if_pos h]
    rw [e]
    simp
  · have e : nx 1 s = (numOf (s.b.take 1), ⟨s.b.drop 1, false⟩) := by unfold nx; rw [if_neg h]
    have h2 : ¬((s.b.length : Int) < 1) := fun hl => h (by simp [bad]; exact .inr (by omega))
    obtain ⟨a, t, hl⟩ : ∃ a t, s.b = a :: t := by
      cases hs : s.b with
      | nil => rw [hs] at h2; simp at h2
      | cons a t => exact ⟨a, t, rfl⟩
    have en : numOf (List.take 1 (a :: t)) = stepN 0 a := by
      unfold numOf
      exact fold1 a t 0
    rw [e, hl]
    simp only [en]
    exact stp4 (m := 1) (by omega) (by omega) (by omega) (by omega)
theorem cts_len : ∀ (n : Nat) (s : PS), (cts n s).1.length ≤ n
  | 0, s => by simp [cts]
  | n + 1, s => by
    have := cts_len n (sg (nx 2 (wd s).2).2).2
    unfold cts
    split <;> simp
    omega
theorem pts_len : ∀ (n : Nat) (s : PS), (pts n s).1.length ≤ n
  | 0, s => by simp [pts]
  | n + 1, s => by
    have := pts_len n (wd s).2
    unfold pts
    split <;> simp
    omega
theorem fin_errV {H : Heap} {k : Int} {v : AV} (h : v = errV k) : Fin [] (.tup [.int .i64 0, .agg zrow, .int .u8 k]) H v [] := by
  subst h
  refine fin_drop (CVs.cons (.refl .int) (CVs.cons (.refl ?_) (CVs.cons (.refl .int) .nil))).tup
  exact (Cls.cons .str (Cls.cons .str (Cls.cons .int (Cls.cons .bool (Cls.cons .nils (Cls.cons .int (Cls.cons .str (Cls.cons .int (Cls.cons .nils .nil))))))))).agg

theorem lends1 {H : Heap} {c c' : AV} (h : Lend H c c') : ∀ (i : Nat) a a', [c][i]? = some a → [c'][i]? = some a' → Lend H a a' := (Lends.cons h .nil).2
theorem rowC_lend {H : Heap} {x : Rg} {c4 c8 : AV} {cs : List Ct} {ps : List (List UInt8)} (h4 : AccL 3 (ctRows cs) c4 H) (h8 : AccL 1 (ptRows ps) c8 H) : Lend H (.agg (rowC x c4 c8)) (.agg (Rg.row { x with cs := cs, path := ps })) :=
  (Lends.cons (.pure .str) (Lends.cons (.pure .str) (Lends.cons (.pure .int) (Lends.cons (.pure .bool) (Lends.cons (accL_lend h4 (ctRows_plain _)) (Lends.cons (.pure .int) (Lends.cons (.pure .str) (Lends.cons (.pure .int) (Lends.cons (accL_lend h8 (ptRows_plain _)) .nil))))))))).agg
theorem rowC_cv {H : Heap} {x : Rg} {c4 c8 : AV} {cs : List Ct} {ps : List (List UInt8)} (h4 : AccL 3 (ctRows cs) c4 H) (h8 : AccL 1 (ptRows ps) c8 H) : CV 0 H [] (.agg (rowC x c4 c8)) (.agg (Rg.row { x with cs := cs, path := ps })) :=
  (CVs.cons (.refl .str) (CVs.cons (.refl .str) (CVs.cons (.refl .int) (CVs.cons (.refl .bool) (CVs.cons (h4.freeze (ctRows_row _) (ctRows_plain _)) (CVs.cons (.refl .int) (CVs.cons (.refl .str) (CVs.cons (.refl .int) (CVs.cons (h8.freeze (ptRows_row _) (ptRows_plain _)) .nil))))))))).agg

theorem end15 (x : Rg) (now star : Int) (s : PS) (c4 c8 : AV) (J J2 : Heap) (cs : List Ct) (ps : List (List UInt8)) (h4 : AccC 3 5 (ctRows cs) c4 J) (h8 : AccC 1 (5 + J.length) (ptRows ps) c8 J2) (hc : cs.length ≤ 1000) (hp : ps.length ≤ 1000) {σ : Env} (g : GT σ now star) :
    wpC (Spec Try.prog) [] T15c σ (DR2 x c4 c8 s J J2) (EQ15 (endV now star { x with cs := cs, path := ps } s)) := by
  unfold T15c
  simp +contextual [m15r32, g.g1, g.g3, g.g5, g.g9, g.g10, g.g11, DR2, DH, ZB, zrow]
  refine ⟨fun h => ?_, fun h => ?_⟩
  · simp [m15r33, EQ15]
    exact fin_errV (k := 6) (by rw [endV, if_pos h])
  have hH4 : ∀ P : Heap, P.length = 5 → AccL 3 (ctRows cs) c4 (P ++ (J ++ J2)) := fun P hP => h4.to hP
  have hH8 : ∀ P : Heap, P.length = 5 → AccL 1 (ptRows ps) c8 (P ++ (J ++ J2)) := fun P hP => by
    have := h8.to (P := P ++ J) (J' := []) (by simp [hP])
    simpa using this
  by_cases h1 : 0 < s.b.length
  · simp [m15r34, rowC, h1]
    simp [m15r35, EQ15]
    exact fin_errV (k := 5) (by rw [endV, if_neg (by simp [h])]; simp [h1])
  by_cases h2 : 1 < star
  · simp [m15r34, rowC, h1, h2]
    simp [m15r35, EQ15]
    exact fin_errV (k := 5) (by rw [endV, if_neg (by simp [h])]; simp [h2])
  simp [m15r34, rowC, h1, h2]
  refine vc_call ((formed11 { x with cs := cs, path := ps } hc hp).lend rfl (lends1 (rowC_lend (hH4 [_, _, _, _, _] rfl) (hH8 [_, _, _, _, _] rfl))) .bool) ?_
  obtain ⟨f, hf⟩ : ∃ f, f = formedB { x with cs := cs, path := ps } := ⟨_, rfl⟩
  rw [← hf]
  cases f with
  | false =>
    simp
    simp [m15r35, EQ15]
    exact fin_errV (k := 5) (by rw [endV, if_neg (by simp [h])]; simp [← hf])
  | true =>
    simp
    refine vc_call ((within29 now 0 1099511627776).frame (Cls.cons .int (Cls.cons .int (Cls.cons .int .nil))) .bool _) ?_
    obtain ⟨f2, hf2⟩ : ∃ f, f = wi now 0 1099511627776 := ⟨_, rfl⟩
    rw [← hf2]
    cases f2 with
    | false =>
      simp
      simp [m15r35, EQ15]
      exact fin_errV (k := 5) (by rw [endV, if_neg (by simp [h])]; simp [← hf2])
    | true =>
      simp
      simp [m15r36, m15r37, m15r38, m15r39]
      refine ⟨⟨h4.cells.2, h8.cells.2⟩, ?_⟩
      simp [EQ15]
      rw [endV, if_neg (by simp [h]), if_neg (by simp [← hf, ← hf2, List.eq_nil_of_length_eq_zero (show s.b.length = 0 by omega), h2])]
      exact fin_drop (CVs.cons (.refl .int) (CVs.cons (rowC_cv (hH4 [_, _, _, _, _] rfl) (hH8 [_, _, _, _, _] rfl)) (CVs.cons (.refl .int) .nil))).tup

theorem tail15 (x : Rg) (now star : Int) (s : PS) (hb : s.b.length ≤ 1000000) {σ : Env} (g : GS σ now star) (hx : x.cs = [] ∧ x.path = []) : wpC (Spec Try.prog) [] T15 σ (DR x .nils .nils s []) (EQ15 (decT now star x s)) := by
  have n1 := nx1 s
  have l1 := nx_len 1 s
  unfold T15
  simp [m15r10, g.g6, DR, DH, NB]
  refine dn_next 1 (by omega) hb ?_
  have e1 : AV.int .i64 (nx 1 s).1 = .int .i64 (((nx 1 s).1.toNat : Nat) : Int) := by congr 1; omega
  have hT : ∀ (σ : Env) (c4 : AV) (J : Heap), (cts (nx 1 s).1.toNat (nx 1 s).2).2.b.length ≤ 1000000 → AccC 3 5 (ctRows (cts (nx 1 s).1.toNat (nx 1 s).2).1) c4 J → GS σ now star → wpC (Spec Try.prog) [] T15b σ (DR x c4 .nils (cts (nx 1 s).1.toNat (nx 1 s).2).2 J) (EQ15 (decT now star x s)) := by
    intro σ c4 J hb h4 g
    have hcl := cts_len (nx 1 s).1.toNat (nx 1 s).2
    unfold decT
    generalize cts (nx 1 s).1.toNat (nx 1 s).2 = z at *
    obtain ⟨cs, t⟩ := z
    simp only at *
    have n1 := nx1 t
    have l1 := nx_len 1 t
    unfold T15b
    simp [m15r22, g.g6, DR, DH, NB]
    refine dn_next 1 (by omega) hb ?_
    have e1 : AV.int .i64 (nx 1 t).1 = .int .i64 (((nx 1 t).1.toNat : Nat) : Int) := by congr 1; omega
    simp [g.g1, g.g3, g.g5, g.g7, g.g9, g.g10, g.g11]
    rw [e1]
    refine loop15p x now star (nx 1 t).1.toNat (by omega) (nx 1 t).2 (by omega) c4 J fun σ c8 J2 h8 g => ?_
    have hpl := pts_len (nx 1 t).1.toNat (nx 1 t).2
    exact end15 x now star _ c4 c8 J J2 cs _ h4 h8 (by omega) (by omega) g
  simp [g.g1, g.g3, g.g5, g.g6, g.g7, g.g8, g.g9, g.g10, g.g11]
  rw [e1]
  refine loop15 x now star (nx 1 s).1.toNat (by omega) (nx 1 s).2 (by omega) fun σ c4 J hb h4 g => ?_
  exact hT σ c4 J hb h4 g
def P0 (b : List UInt8) : Int × PS := nx 8 ⟨b, false⟩
def P1 (b : List UInt8) : List UInt8 × PS := wd (P0 b).2
def P2 (b : List UInt8) : List UInt8 × PS := wd (P1 b).2
def P3 (b : List UInt8) : Int × PS := sg (P2 b).2
def P4 (b : List UInt8) : Int × PS := nx 1 (P3 b).2
def P5 (b : List UInt8) : Int × PS := sg (P4 b).2
def P6 (b : List UInt8) : List UInt8 × PS := wd (P5 b).2
def P7 (b : List UInt8) : Int × PS := sg (P6 b).2
def headR (b : List UInt8) : Rg := ⟨(P1 b).1, (P2 b).1, (P3 b).1, decide ((P4 b).1 = 1), [], (P5 b).1, (P6 b).1, (P7 b).1, []⟩
def decV (b : List UInt8) : AV := decT (P0 b).1 (P4 b).1 (headR b) (P7 b).2

theorem dec15 (b : List UInt8) (hb : b.length ≤ 1000000) : Spec Try.prog 15 [.islice (rowsU8 b)] [] (decV b) [] := by
  refine spec_of_wp (C := Spec Try.prog) (fun _ _ _ _ _ h => h) mixed m15_ok (show 1 ≤ _ by decide) ?_
  unfold m15
  have l0 : (P0 b).2.b.length ≤ 1000000 := Nat.le_trans (nx_len _ _) hb
  have l1 : (P1 b).2.b.length ≤ 1000000 := Nat.le_trans (wd_len _) l0
  have l2 : (P2 b).2.b.length ≤ 1000000 := Nat.le_trans (wd_len _) l1
  have l3 : (P3 b).2.b.length ≤ 1000000 := Nat.le_trans (sg_len _) l2
  have l4 : (P4 b).2.b.length ≤ 1000000 := Nat.le_trans (nx_len _ _) l3
  have l5 : (P5 b).2.b.length ≤ 1000000 := Nat.le_trans (sg_len _) l4
  have l6 : (P6 b).2.b.length ≤ 1000000 := Nat.le_trans (wd_len _) l5
  have l7 : (P7 b).2.b.length ≤ 1000000 := Nat.le_trans (sg_len _) l6
  simp [m15r0, envOf, m15r1, m15r2, m15r3, m15r4, m15r5]
  refine ⟨rfl, ?_⟩
  refine dn_next (s := ⟨b, false⟩) (x1 := ZB) (J := [NB]) 8 (by omega) hb ?_
  show putK _ _ _ _ _ (.int .i64 (P0 b).1) (DH (P0 b).2 ZB [NB])
  simp [m15r6]
  refine dn_word (J := []) l0 ?_
  show putK _ _ _ _ _ (.str (P1 b).1) (DH (P1 b).2 ZB [NB])
  simp
  refine dn_word (J := []) l1 ?_
  show putK _ _ _ _ _ (.str (P2 b).1) (DH (P2 b).2 ZB [NB])
  simp
  refine dn_signed (J := []) l2 ?_
  show putK _ _ _ _ _ (.int .i64 (P3 b).1) (DH (P3 b).2 ZB [NB])
  simp [DH, NB, m15r7]
  refine dn_next (s := (P3 b).2) (x1 := ZB) (J := NB :: _) 1 (by omega) l3 ?_
  show putK _ _ _ _ _ (.int .i64 (P4 b).1) (DH (P4 b).2 ZB _)
  simp [DH, NB, m15r8]
  simp [m15r9]
  refine dn_signed (s := (P4 b).2) (x1 := ZB) (J := _) l4 ?_
  show putK _ _ _ _ _ (.int .i64 (P5 b).1) (DH (P5 b).2 ZB _)
  simp
  refine dn_word l5 ?_
  show putK _ _ _ _ _ (.str (P6 b).1) (DH (P6 b).2 ZB _)
  simp
  refine dn_signed l6 ?_
  show putK _ _ _ _ _ (.int .i64 (P7 b).1) (DH (P7 b).2 ZB _)
  simp [DH, NB]
  exact to_seqs (tail15 (headR b) (P0 b).1 (P4 b).1 (P7 b).2 l7 ⟨rfl, rfl, rfl, rfl, rfl, rfl, rfl, rfl, rfl⟩ ⟨rfl, rfl⟩)
end Go.Ab.Try.S

/- Reading an act, the document's reader. Conditions: none. -/
namespace Go.Ab.Try.S
open Go.Proofs

def RH (s : PS) (x0 : ABlk) (J : Heap) : Heap := x0 :: .rows 0 2 [[.islice (rowsU8 s.b), .bool s.short]] :: J
def tkV (n : Int) (s : PS) : AV := if bad n s then .nils else .islice (rowsU8 (s.b.take n.toNat))
theorem take40 (s : PS) (n : Int) (h0 : 0 ≤ n) (hb : s.b.length ≤ 1000000) (x0 : ABlk) (J : Heap) : Spec Try.prog 40 [.ptr 1 0 0 0, .int .i64 n] (RH s x0 J) (tkV n s) (RH (tkS n s).2 x0 J) := by
  refine spec_of_wp (C := Spec Try.prog) (fun _ _ _ _ _ h => h) mixed m40_ok (show 2 ≤ _ by decide) ?_
  unfold m40
  simp +contextual [m40r0, m40r1, envOf, RH, -condK_bool]
  refine condK_of (y := bad n s) (by simp [bad]) (fun h => ?_) (fun h => ?_)
  · simp [m40r2, m40r3]
    have e : tkS n s = ([], ⟨s.b, true⟩) := by unfold tkS; rw [if_pos h]
    have e2 : tkV n s = .nils := by unfold tkV; rw [if_pos h]
    rw [e, e2]
    exact Fin.refl _ _ _
  · have h2 : s.short = false ∧ n ≤ s.b.length := by
      simp only [bad, Bool.or_eq_false_iff, decide_eq_false_iff_not] at h
      exact ⟨h.1, by omega⟩
    have e : tkS n s = (s.b.take n.toNat, ⟨s.b.drop n.toNat, false⟩) := by unfold tkS; rw [if_neg (by simp [h])]
    have e2 : tkV n s = .islice (rowsU8 (s.b.take n.toNat)) := by unfold tkV; rw [if_neg (by simp [h])]
    have h3 : n.toNat ≤ s.b.length := by omega
    rw [e, e2]
    simp [m40r4, m40r5, m40r6, h0, h3, h2]
    refine ⟨rowsU8_row _, ?_⟩
    rw [rowsU8_drop, rowsU8_take, List.take_of_length_le (l := rowsU8 (List.drop n.toNat s.b)) (by rw [rowsU8_len, List.length_drop]; omega)]
    exact Fin.refl _ _ _

theorem mul_add (n : Int) (c : UInt8) : wrp .i64 (wrp .i64 (256 * n) + wrp .i64 (c.toNat : Int)) = stepN n c := by
  have hc := c.toNat_lt
  unfold stepN
  simp only [wrp]
  omega
theorem sgn_of {n : Int} (h0 : 0 ≤ n) (h1 : n < 4294967296) : wrp .i32 n = if 2147483647 < n then n - 4294967296 else n := by
  simp only [wrp]
  split <;> omega
theorem four_of : ∀ (l : List UInt8), ¬((l.length : Int) < 4) → ∃ a b c d t, l = a :: b :: c :: d :: t
  | [], h => by simp at h
  | [_], h => by simp at h
  | [_, _], h => by simp at h
  | [_, _, _], h => by simp at h
  | a :: b :: c :: d :: t, _ => ⟨a, b, c, d, t, rfl⟩
theorem fold4 {f : Int → UInt8 → Int} (a b c d : UInt8) (t : List UInt8) (z : Int) : (List.take 4 (a :: b :: c :: d :: t)).foldl f z = f (f (f (f z a) b) c) d := rfl
theorem four_nums (a b c d : UInt8) : 0 ≤ stepN (stepN (stepN (stepN 0 a) b) c) d ∧ stepN (stepN (stepN (stepN 0 a) b) c) d < 4294967296 := by
  have h2 := two_nums a b
  have h3 : 0 ≤ stepN (stepN (stepN 0 a) b) c ∧ stepN (stepN (stepN 0 a) b) c < 16777216 := stp4 (m := 65536) h2.1 h2.2 (by omega) (by omega)
  exact stp4 (m := 16777216) h3.1 h3.2 (by omega) (by omega)
theorem nx4 (s : PS) : 0 ≤ (nx 4 s).1 ∧ (nx 4 s).1 < 4294967296 := by
  by_cases h : bad (4 : Nat) s = true
  · have e : nx 4 s = (0, ⟨s.b, true⟩) := by unfold nx; rw [if_pos h]
    rw [e]
    simp
  · have e : nx 4 s = (numOf (s.b.take 4), ⟨s.b.drop 4, false⟩) := by unfold nx; rw [if_neg h]
    have h2 : ¬((s.b.length : Int) < 4) := fun hl => h (by simp [bad]; exact .inr (by omega))
    obtain ⟨a, b, c, d, t, hl⟩ := four_of _ h2
    have en : numOf (List.take 4 (a :: b :: c :: d :: t)) = stepN (stepN (stepN (stepN 0 a) b) c) d := by
      unfold numOf
      exact fold4 a b c d t 0
    rw [e, hl]
    simp only [en]
    exact four_nums a b c d

def nr (size : Nat) (s : PS) : Int := if size = 4 then (sg s).1 else (nx size s).1
def I41 (v : AV) (d : List UInt8) (size : Int) (H0 : Heap) (m : Nat) (σ : Env) (H : Heap) : Prop := ∃ k : Nat, m = d.length - k ∧ k ≤ d.length ∧ H = H0 ∧ σ = [(1, .int .i64 size), (5, v), (6, .int .i64 (numOf (d.take k))), (7, .int .i64 k)]
theorem loop41 {v : AV} {d : List UInt8} (hv : (v = .nils ∧ d = []) ∨ v = .islice (rowsU8 d)) (hd : d.length ≤ 1000000) (size : Int) {H base : Heap} {Q : Ex → Env → Heap → Prop} (hQ : ∀ σ, σ.get 1 = .int .i64 size → σ.get 6 = .int .i64 (numOf d) → Q .normal σ H) :
    wpC (Spec Try.prog) base (.loop [1, 5, 6, 7] m41l7) [(1, .int .i64 size), (5, v), (6, .int .i64 0), (7, .int .i64 0)] H (blkK 0 Q) := by
  refine vc_loop (I41 v d size H) d.length ⟨0, rfl, by omega, rfl, rfl⟩ ?_
  rintro m σ1 H1 ⟨k, rfl, hk, rfl, rfl⟩
  have hlen : lenAV H1 1 v = some d.length := by
    rcases hv with ⟨rfl, rfl⟩ | rfl <;> simp
  by_cases hlt : k < d.length
  · have hv2 : v = .islice (rowsU8 d) := by
      rcases hv with ⟨rfl, rfl⟩ | h
      · simp at hlt
      · exact h
    subst hv2
    have hlt2 : (k : Int) < d.length := by omega
    have zi : FI (wrp .i64 ((k : Int) + 1)) (k + 1) := fi64 (by omega)
    simp [m41l7, m41r4, m41r5, m41r6, hlt, hlt2, iaddr_is, zi.o]
    refine ⟨_, Nat.sub_succ_lt_self _ _ hlt, k + 1, rfl, hlt, rfl, ?_⟩
    have hg : gb d k = d[k].toNat := by simp [gb, hlt]
    have hm := mul_add (numOf (d.take k)) d[k]
    rw [numOf_take hlt, hg, hm]
    simp
  · have hk2 : k = d.length := by omega
    subst hk2
    simp [m41l7, m41r4, hlen]
    exact hQ _ (by simp) (by simp)

theorem num41 (s : PS) (size : Nat) (hs : size ≤ 8) (hb : s.b.length ≤ 1000000) (x0 : ABlk) (J : Heap) : Spec Try.prog 41 [.ptr 1 0 0 0, .int .i64 size] (RH s x0 J) (.int .i64 (nr size s)) (RH (nx size s).2 x0 J) := by
  refine spec_of_wp (C := Spec Try.prog) (fun _ _ _ _ _ h => h) mixed m41_ok (show 2 ≤ _ by decide) ?_
  unfold m41
  simp [m41r0, m41r1, envOf]
  refine vc_call (take40 s size (by omega) hb x0 J) ?_
  obtain ⟨d, hv, hn, h2, hdl⟩ : ∃ d : List UInt8, ((tkV size s = .nils ∧ d = []) ∨ tkV size s = .islice (rowsU8 d)) ∧ numOf d = (nx size s).1 ∧ (tkS size s).2 = (nx size s).2 ∧ d.length ≤ 1000000 := by
    by_cases h : bad size s = true
    · refine ⟨[], .inl ⟨by unfold tkV; rw [if_pos h], rfl⟩, ?_, ?_, by simp⟩
      · unfold nx; rw [if_pos h]; rfl
      · unfold nx tkS; rw [if_pos h, if_pos h]
    · refine ⟨s.b.take size, .inr (by unfold tkV; rw [if_neg h]; simp), ?_, ?_, by simp; omega⟩
      · unfold nx; rw [if_neg h]
      · unfold nx tkS; rw [if_neg h, if_neg h]; simp
  rw [h2]
  simp [m41r2, m41r3]
  refine loop41 hv hdl size fun σ e1 e6 => ?_
  rw [hn] at e6
  simp +contextual [m41r8, e1, e6, -condK_bool]
  refine condK_of (y := decide (size = 4) && decide (2147483647 < (nx size s).1)) ?_ (fun h => ?_) (fun h => ?_)
  · rw [show decide (size = 4) = decide ((size : Int) = 4) by rw [Bool.eq_iff_iff]; simp; omega]
  · simp only [Bool.and_eq_true, decide_eq_true_eq] at h
    obtain ⟨rfl, h⟩ := h
    have n4 := nx4 s
    have z : FI (wrp .i64 ((nx 4 s).1 - 4294967296)) ((nx 4 s).1 - 4294967296) := fi64 (by omega)
    simp [m41r9, z.o, m41r10]
    exact fin_of (by rw [nr, if_pos rfl, sg, sgn_of n4.1 n4.2, if_pos h])
  · simp [m41r10]
    refine fin_of ?_
    rw [nr]
    by_cases hs : size = 4
    · subst hs
      have n4 := nx4 s
      have h3 : ¬2147483647 < (nx 4 s).1 := by simpa using h
      rw [if_pos rfl, sg, sgn_of n4.1 n4.2, if_neg h3]
    · rw [if_neg hs]
theorem text42 (s : PS) (hb : s.b.length ≤ 1000000) (x0 : ABlk) (J : Heap) : Spec Try.prog 42 [.ptr 1 0 0 0] (RH s x0 J) (.str (wd s).1) (RH (wd s).2 x0 J) := by
  refine spec_of_wp (C := Spec Try.prog) (fun _ _ _ _ _ h => h) mixed m42_ok (show 1 ≤ _ by decide) ?_
  unfold m42
  have n2 := nx2 s
  have l2 := nx_len 2 s
  simp [m42r0, m42r1, envOf]
  refine vc_call (num41 s 2 (by omega) hb x0 J) ?_
  have e : nr 2 s = (nx 2 s).1 := by rw [nr, if_neg (by omega)]
  rw [e]
  simp
  refine vc_call (take40 (nx 2 s).2 (nx 2 s).1 n2.1 (by omega) x0 J) ?_
  simp
  refine W_of (a := (wd s).1) ?_ ?_
  · unfold wd tkV tkS
    split <;> simp [bytesOf_rowsU8]
  · exact Fin.refl _ _ _
end Go.Ab.Try.S

/- DecodeAct by the document. Conditions: none. -/
namespace Go.Ab.Try.S
open Go.Proofs

def SR (x : Rg) (c4 c8 : AV) (s : PS) (J J2 : Heap) : Heap := RH s ZB (.rows 0 9 [rowC x c4 c8] :: (J ++ J2))
def SQ (x : Rg) (c4 : AV) (s : PS) (J : Heap) : Heap := RH s ZB (.rows 0 9 [rowC x c4 .nils] :: J)
theorem rd_num {s : PS} {x0 : ABlk} {J : Heap} {K : AV → Heap → Prop} (size : Nat) (hs : size ≤ 8) (hb : s.b.length ≤ 1000000) (k : K (.int .i64 (nr size s)) (RH (nx size s).2 x0 J)) : callK (Spec Try.prog) 41 [.ptr 1 0 0 0, .int .i64 size] (RH s x0 J) K :=
  vc_call (num41 s size hs hb x0 J) k
theorem rd_text {s : PS} {x0 : ABlk} {J : Heap} {K : AV → Heap → Prop} (hb : s.b.length ≤ 1000000) (k : K (.str (wd s).1) (RH (wd s).2 x0 J)) : callK (Spec Try.prog) 42 [.ptr 1 0 0 0] (RH s x0 J) K :=
  vc_call (text42 s hb x0 J) k
theorem nr1 (s : PS) : nr 1 s = (nx 1 s).1 := by rw [nr, if_neg (by omega)]
theorem nr2 (s : PS) : nr 2 s = (nx 2 s).1 := by rw [nr, if_neg (by omega)]
theorem nr8 (s : PS) : nr 8 s = (nx 8 s).1 := by rw [nr, if_neg (by omega)]
theorem nr4 (s : PS) : nr 4 s = (sg s).1 := by rw [nr, if_pos rfl]

structure HS (σ : Env) (early : Bool) (now star : Int) : Prop where
  g3 : σ.get 3 = .ptr 0 0 0 0
  g5 : σ.get 5 = .ptr 1 0 0 0
  g6 : σ.get 6 = .ptr 2 0 0 0
  g7 : σ.get 7 = .bool early
  g8 : σ.get 8 = .int .i64 now
  g9 : σ.get 9 = .int .i64 star

def L16 (x : Rg) (early : Bool) (now star : Int) (n0 : Nat) (s0 : PS) (m : Nat) (σ : Env) (H : Heap) : Prop := ∃ (n i : Nat) (s : PS) (acc : List Ct) (c4 : AV) (J : Heap), m = n ∧ i + n = n0 ∧ acc.length ≤ i ∧ s.b.length ≤ 1000000 ∧ cts n0 s0 = (acc ++ (cts n s).1, (cts n s).2) ∧ AccC 3 3 (ctRows acc) c4 J ∧ H = SQ x c4 s J ∧
  σ = [(3, .ptr 0 0 0 0), (5, .ptr 1 0 0 0), (6, .ptr 2 0 0 0), (7, .bool early), (8, .int .i64 now), (9, .int .i64 star), (10, .int .i64 n0), (11, .int .i64 i)]
theorem loop16 (x : Rg) (early : Bool) (now star : Int) (n0 : Nat) (hn : n0 ≤ 255) (s0 : PS) (hb : s0.b.length ≤ 1000000) {Q : Ex → Env → Heap → Prop} {base : Heap}
    (hQ : ∀ σ c4 J, (cts n0 s0).2.b.length ≤ 1000000 → AccC 3 3 (ctRows (cts n0 s0).1) c4 J → HS σ early now star → Q .normal σ (SQ x c4 (cts n0 s0).2 J)) :
    wpC (Spec Try.prog) base (.loop [3, 5, 6, 7, 8, 9, 10, 11] m16l24) [(3, .ptr 0 0 0 0), (5, .ptr 1 0 0 0), (6, .ptr 2 0 0 0), (7, .bool early), (8, .int .i64 now), (9, .int .i64 star), (10, .int .i64 n0), (11, .int .i64 0)] (SQ x .nils s0 []) (blkK 0 Q) := by
  refine vc_loop (L16 x early now star n0 s0) n0 ⟨n0, 0, s0, [], .nils, [], rfl, by omega, by simp, hb, by simp, .inl ⟨rfl, rfl, rfl⟩, rfl, by simp⟩ ?_
  rintro m σ H ⟨n, i, s, acc, c4, J, rfl, hi, hn2, hb, hc, hacc, rfl, rfl⟩
  simp +contextual [m16l24, m16r18, SQ, RH, -condK_bool]
  by_cases hm : 0 < m ∧ s.short = false
  · obtain ⟨n, rfl⟩ : ∃ n, m = n + 1 := ⟨m - 1, by omega⟩
    have ec : cts (n + 1) s = (⟨(wd s).1, (nx 2 (wd s).2).1, (sg (nx 2 (wd s).2).2).1⟩ :: (cts n (sg (nx 2 (wd s).2).2).2).1, (cts n (sg (nx 2 (wd s).2).2).2).2) := by
      rw [cts, if_neg (by simp [hm.2])]
    have l1 := wd_len s
    have l2 := nx_len 2 (wd s).2
    have l3 := sg_len (nx 2 (wd s).2).2
    have zi : FI (wrp .i64 ((i : Int) + 1)) (i + 1) := fi64 (by omega)
    refine condK_of (y := true) (by simp [hm.2]; omega) (fun _ => ?_) (fun h => by cases h)
    simp [m16r19]
    refine rd_text hb ?_
    simp [m16r20]
    refine rd_num 2 (by omega) (by omega) ?_
    rw [nr2]
    simp [m16r21]
    refine rd_num 4 (by omega) (by omega) ?_
    rw [nr4]
    simp [m16r22, RH, fillRows, rowC]
    obtain ⟨c, hcd⟩ : ∃ c : Ct, c = ⟨(wd s).1, (nx 2 (wd s).2).1, (sg (nx 2 (wd s).2).2).1⟩ := ⟨_, rfl⟩
    refine accC_app (P := [ZB, .rows 0 2 [[.islice (rowsU8 (sg (nx 2 (wd s).2).2).2.b), .bool (sg (nx 2 (wd s).2).2).2.short]], .rows 0 9 [rowC x c4 .nils]]) (row := Ct.row ⟨(wd s).1, (nx 2 (wd s).2).1, (sg (nx 2 (wd s).2).2).1⟩) (bytes := 32) hacc rfl rfl (by simp [roomB]; omega) fun c' J' hacc' => ?_
    rw [← hcd] at hacc'
    have hcl := hacc'.cells
    simp [hcl, m16r23, zi.o, rowC]
    refine ⟨n, by omega, n, i + 1, (sg (nx 2 (wd s).2).2).2, acc ++ [c], c', J', rfl, by omega, by simp; omega, by omega, ?_, by simpa [ctRows] using hacc', ?_, ?_⟩
    · rw [hc, ec, ← hcd]
      simp
    · simp [SQ, RH, rowC]
    · simp
  · refine condK_of (y := false) ?_ (fun h => by cases h) (fun _ => ?_)
    · by_cases h0 : 0 < m
      · have : s.short = true := by
          cases hs : s.short with
          | true => rfl
          | false => exact absurd ⟨h0, hs⟩ hm
        simp [this]
      · have : ¬i < n0 := by omega
        simp [this]
    · have ec : cts m s = ([], s) := by
        match m, hm with
        | 0, _ => rfl
        | n + 1, hm =>
          have : s.short = true := by
            cases hs : s.short with
            | true => rfl
            | false => exact absurd ⟨by omega, hs⟩ hm
          rw [cts, if_pos this]
      rw [ec] at hc
      simp at hc
      have := hQ
      rw [hc] at this
      exact this _ c4 J hb hacc ⟨rfl, rfl, rfl, rfl, rfl, rfl⟩

def M16 (x : Rg) (early : Bool) (now star : Int) (n0 : Nat) (s0 : PS) (c4 : AV) (J : Heap) (m : Nat) (σ : Env) (H : Heap) : Prop := ∃ (n i : Nat) (s : PS) (acc : List (List UInt8)) (c8 : AV) (J2 : Heap), m = n ∧ i + n = n0 ∧ acc.length ≤ i ∧ s.b.length ≤ 1000000 ∧ pts n0 s0 = (acc ++ (pts n s).1, (pts n s).2) ∧ AccC 1 (3 + J.length) (ptRows acc) c8 J2 ∧ H = SR x c4 c8 s J J2 ∧
  σ = [(3, .ptr 0 0 0 0), (5, .ptr 1 0 0 0), (6, .ptr 2 0 0 0), (7, .bool early), (8, .int .i64 now), (9, .int .i64 star), (10, .int .i64 n0), (15, .int .i64 i)]
theorem loop16p (x : Rg) (early : Bool) (now star : Int) (n0 : Nat) (hn : n0 ≤ 255) (s0 : PS) (hb : s0.b.length ≤ 1000000) (c4 : AV) (J : Heap) {Q : Ex → Env → Heap → Prop} {base : Heap}
    (hQ : ∀ σ c8 J2, AccC 1 (3 + J.length) (ptRows (pts n0 s0).1) c8 J2 → HS σ early now star → Q .normal σ (SR x c4 c8 (pts n0 s0).2 J J2)) :
    wpC (Spec Try.prog) base (.loop [3, 5, 6, 7, 8, 9, 10, 15] m16l31) [(3, .ptr 0 0 0 0), (5, .ptr 1 0 0 0), (6, .ptr 2 0 0 0), (7, .bool early), (8, .int .i64 now), (9, .int .i64 star), (10, .int .i64 n0), (15, .int .i64 0)] (SQ x c4 s0 J) (blkK 2 Q) := by
  refine vc_loop (M16 x early now star n0 s0 c4 J) n0 ⟨n0, 0, s0, [], .nils, [], rfl, by omega, by simp, hb, by simp, .inl ⟨rfl, rfl, rfl⟩, by simp [SR, SQ], by simp⟩ ?_
  rintro m σ H ⟨n, i, s, acc, c8, J2, rfl, hi, hn2, hb, hc, hacc, rfl, rfl⟩
  simp +contextual [m16l31, m16r27, SR, RH, -condK_bool]
  by_cases hm : 0 < m ∧ s.short = false
  · obtain ⟨n, rfl⟩ : ∃ n, m = n + 1 := ⟨m - 1, by omega⟩
    have ec : pts (n + 1) s = ((wd s).1 :: (pts n (wd s).2).1, (pts n (wd s).2).2) := by
      rw [pts, if_neg (by simp [hm.2])]
    have l1 := wd_len s
    have zi : FI (wrp .i64 ((i : Int) + 1)) (i + 1) := fi64 (by omega)
    refine condK_of (y := true) (by simp [hm.2]; omega) (fun _ => ?_) (fun h => by cases h)
    simp [m16r28]
    refine rd_text hb ?_
    simp [m16r29, RH, fillRows, rowC]
    refine accC_app (P := [ZB, .rows 0 2 [[.islice (rowsU8 (wd s).2.b), .bool (wd s).2.short]], .rows 0 9 [rowC x c4 c8]] ++ J) (row := ptRow (wd s).1) (bytes := 16) hacc (by simp; omega) rfl (by simp [roomB]; omega) fun c' J' hacc' => ?_
    have hcl := hacc'.cells
    simp [hcl, m16r30, zi.o, rowC]
    refine ⟨n, by omega, n, i + 1, (wd s).2, acc ++ [(wd s).1], c', J', rfl, by omega, by simp; omega, by omega, ?_, by simpa [ptRows] using hacc', ?_, ?_⟩
    · rw [hc, ec]
      simp
    · simp [SR, RH, rowC]
    · simp
  · refine condK_of (y := false) ?_ (fun h => by cases h) (fun _ => ?_)
    · by_cases h0 : 0 < m
      · have : s.short = true := by
          cases hs : s.short with
          | true => rfl
          | false => exact absurd ⟨h0, hs⟩ hm
        simp [this]
      · have : ¬i < n0 := by omega
        simp [this]
    · have ec : pts m s = ([], s) := by
        match m, hm with
        | 0, _ => rfl
        | n + 1, hm =>
          have : s.short = true := by
            cases hs : s.short with
            | true => rfl
            | false => exact absurd ⟨by omega, hs⟩ hm
          rw [pts, if_pos this]
      rw [ec] at hc
      simp at hc
      have := hQ
      rw [hc] at this
      exact this _ c8 J2 hacc ⟨rfl, rfl, rfl, rfl, rfl, rfl⟩

def T16c : MCode := (.seq (.seq (.region m16r32 [3, 5, 6, 7, 8, 9, 111]) (.cond (.tmp 111) (.seq (.region m16r33 [2, 3, 4]) .ret) .skip)) (.seq (.seq (.region m16r34 [3, 6, 8, 134]) (.cond (.tmp 134) (.seq (.region m16r35 [2, 3, 4]) .ret) .skip)) (.seq (.dregion m16r36 m16r37 [m16r38, m16r39, [], []] [2, 3, 4]) .ret)))
def T16b : MCode := (.seq (.region m16r25 [3, 5, 6, 7, 8, 9, 10]) (.seq (.seq (.region m16r26 [3, 5, 6, 7, 8, 9, 10, 15]) (.block 2 (.loop [3, 5, 6, 7, 8, 9, 10, 15] m16l31))) T16c))
def T16 : MCode := (.seq (.region m16r16 [3, 5, 6, 7, 8, 9, 10]) (.seq (.seq (.region m16r17 [3, 5, 6, 7, 8, 9, 10, 11]) (.block 0 (.loop [3, 5, 6, 7, 8, 9, 10, 11] m16l24))) T16b))

theorem end16 (x : Rg) (early : Bool) (now now' star : Int) (hE : wi now 0 1099511627776 = (!early && !decide (1099511627776 < now'))) (hN : early = false → now' = now) (s : PS) (c4 c8 : AV) (J J2 : Heap) (cs : List Ct) (ps : List (List UInt8)) (h4 : AccC 3 3 (ctRows cs) c4 J) (h8 : AccC 1 (3 + J.length) (ptRows ps) c8 J2) (hc : cs.length ≤ 1000) (hp : ps.length ≤ 1000) {σ : Env} (g : HS σ early now' star) :
    wpC (Spec Try.prog) [] T16c σ (SR x c4 c8 s J J2) (EQ15 (endV now star { x with cs := cs, path := ps } s)) := by
  unfold T16c
  simp +contextual [m16r32, g.g3, g.g5, g.g6, g.g7, g.g8, g.g9, SR, RH, ZB, zrow]
  refine ⟨fun h => ?_, fun h => ?_⟩
  · simp [m16r33, EQ15]
    exact fin_errV (k := 6) (by rw [endV, if_pos h])
  have hH4 : ∀ P : Heap, P.length = 3 → AccL 3 (ctRows cs) c4 (P ++ (J ++ J2)) := fun P hP => h4.to hP
  have hH8 : ∀ P : Heap, P.length = 3 → AccL 1 (ptRows ps) c8 (P ++ (J ++ J2)) := fun P hP => by
    have := h8.to (P := P ++ J) (J' := []) (by simp [hP])
    simpa using this
  by_cases h1 : 0 < s.b.length
  · have h1' : ¬s.b = [] := fun e => by rw [e] at h1; simp at h1
    simp [m16r34, rowC, h1, h1']
    simp [m16r35, EQ15]
    exact fin_errV (k := 5) (by rw [endV, if_neg (by simp [h])]; simp [h1])
  have h1' : s.b = [] := List.eq_nil_of_length_eq_zero (by omega)
  have h1'' : ((s.b.length : Nat) : Int) = 0 := by simp [h1']
  by_cases h2 : 1 < star
  · simp [m16r34, rowC, h1', h2]
    simp [m16r35, EQ15]
    exact fin_errV (k := 5) (by rw [endV, if_neg (by simp [h])]; simp [h2])
  cases early with
  | true =>
    have hE2 : wi now 0 1099511627776 = false := by rw [hE]; rfl
    simp [m16r34, rowC, h1', h2]
    simp [m16r35, EQ15]
    exact fin_errV (k := 5) (by rw [endV, if_neg (by simp [h])]; simp [hE2])
  | false =>
  obtain rfl := hN rfl
  simp [m16r34, rowC, h1', h2]
  refine vc_call ((formed12 { x with cs := cs, path := ps } hc hp).lend rfl (lends1 (rowC_lend (hH4 [_, _, _] rfl) (hH8 [_, _, _] rfl))) .bool) ?_
  obtain ⟨f, hf⟩ : ∃ f, f = formedB { x with cs := cs, path := ps } := ⟨_, rfl⟩
  rw [← hf]
  cases f with
  | false =>
    simp
    simp [m16r35, EQ15]
    exact fin_errV (k := 5) (by rw [endV, if_neg (by simp [h])]; simp [← hf])
  | true =>
    by_cases h3 : 1099511627776 < now'
    · simp [h3]
      simp [m16r35, EQ15]
      exact fin_errV (k := 5) (by rw [endV, if_neg (by simp [h])]; simp [hE, h3])
    · simp [h3]
      simp [m16r36, m16r37, m16r38, m16r39]
      refine ⟨⟨h4.cells.2, h8.cells.2⟩, ?_⟩
      simp [EQ15]
      rw [endV, if_neg (by simp [h]), if_neg (by simp [← hf, hE, h3, List.eq_nil_of_length_eq_zero (show s.b.length = 0 by omega), h2])]
      exact fin_drop (CVs.cons (.refl .int) (CVs.cons (rowC_cv (hH4 [_, _, _] rfl) (hH8 [_, _, _] rfl)) (CVs.cons (.refl .int) .nil))).tup
end Go.Ab.Try.S

/- DecodeAct by the document, its result. Conditions: none. -/
namespace Go.Ab.Try.S
open Go.Proofs

theorem stp6 {n : Int} {c : Nat} (hc : c < 256) (h1 : 0 ≤ n) (h2 : n < 36028797018963968) : -9223372036854775808 ≤ n * 256 + (c : Int) ∧ n * 256 + (c : Int) < 9223372036854775808 := by omega
theorem stp7 {n : Int} {c : UInt8} (h1 : 0 ≤ n) (h2 : n < 36028797018963968) : stepN n c = n * 256 + c.toNat := wrp_i64 (stp6 c.toNat_lt h1 h2)
theorem stp8 {n lo hi lo' hi' : Int} {c : Nat} (hc : c < 256) (h0 : 0 ≤ lo) (h1 : lo ≤ n) (h2 : n < hi) (e1 : lo * 256 = lo') (e2 : hi * 256 = hi') : lo' ≤ n * 256 + (c : Int) ∧ n * 256 + (c : Int) < hi' := by omega
theorem stp9 {n lo hi : Int} (lo' hi' : Int) (c : UInt8) (h0 : 0 ≤ lo) (h : lo ≤ n ∧ n < hi) (hm : hi ≤ 36028797018963968) (e1 : lo * 256 = lo') (e2 : hi * 256 = hi') : lo' ≤ stepN n c ∧ stepN n c < hi' := by
  rw [stp7 (by omega) (by omega)]
  exact stp8 c.toNat_lt h0 h.1 h.2 e1 e2
theorem stp10 {n : Int} {c : Nat} (hc : c < 256) (h1 : 36028797018963968 ≤ n) (h2 : n < 72057594037927936) : wrp .i64 (n * 256 + (c : Int)) < 0 := by
  have : n * 256 + (c : Int) ≥ 9223372036854775808 := by omega
  have : n * 256 + (c : Int) < 18446744073709551616 := by omega
  generalize n * 256 + (c : Int) = m at *
  simp only [wrp]
  omega
theorem fold8 {f : Int → UInt8 → Int} (a b c d e g h i : UInt8) (t : List UInt8) (z : Int) : (List.take 8 (a :: b :: c :: d :: e :: g :: h :: i :: t)).foldl f z = f (f (f (f (f (f (f (f z a) b) c) d) e) g) h) i := rfl
theorem eight_of : ∀ (l : List UInt8), 8 ≤ l.length → ∃ a b c d e g h i t, l = a :: b :: c :: d :: e :: g :: h :: i :: t
  | a :: b :: c :: d :: e :: g :: h :: i :: t, _ => ⟨a, b, c, d, e, g, h, i, t, rfl⟩
  | [], h => by simp at h
  | [_], h => by simp at h
  | [_, _], h => by simp at h
  | [_, _, _], h => by simp at h
  | [_, _, _, _], h => by simp at h
  | [_, _, _, _, _], h => by simp at h
  | [_, _, _, _, _, _], h => by simp at h
  | [_, _, _, _, _, _, _], h => by simp at h
theorem first_step (a : UInt8) : stepN 0 a = a.toNat := by
  rw [stp7 (by omega) (by omega)]
  omega
theorem sign8 (a b c d e g h i : UInt8) : (128 ≤ a.toNat → stepN (stepN (stepN (stepN (stepN (stepN (stepN (stepN 0 a) b) c) d) e) g) h) i < 0) ∧ (a.toNat < 128 → 0 ≤ stepN (stepN (stepN (stepN (stepN (stepN (stepN (stepN 0 a) b) c) d) e) g) h) i) := by
  have ha := a.toNat_lt
  rw [first_step]
  refine ⟨fun h1 => ?_, fun h1 => ?_⟩
  · have x2 := stp9 (n := a.toNat) (lo := 128) (hi := 256) 32768 65536 b (by omega) (by omega) (by omega) (by omega) (by omega)
    have x3 := stp9 8388608 16777216 c (by omega) x2 (by omega) (by omega) (by omega)
    have x4 := stp9 2147483648 4294967296 d (by omega) x3 (by omega) (by omega) (by omega)
    have x5 := stp9 549755813888 1099511627776 e (by omega) x4 (by omega) (by omega) (by omega)
    have x6 := stp9 140737488355328 281474976710656 g (by omega) x5 (by omega) (by omega) (by omega)
    have x7 := stp9 36028797018963968 72057594037927936 h (by omega) x6 (by omega) (by omega) (by omega)
    exact stp10 i.toNat_lt x7.1 x7.2
  · have x2 := stp9 (n := a.toNat) (lo := 0) (hi := 128) 0 32768 b (by omega) (by omega) (by omega) (by omega) (by omega)
    have x3 := stp9 0 8388608 c (by omega) x2 (by omega) (by omega) (by omega)
    have x4 := stp9 0 2147483648 d (by omega) x3 (by omega) (by omega) (by omega)
    have x5 := stp9 0 549755813888 e (by omega) x4 (by omega) (by omega) (by omega)
    have x6 := stp9 0 140737488355328 g (by omega) x5 (by omega) (by omega) (by omega)
    have x7 := stp9 0 36028797018963968 h (by omega) x6 (by omega) (by omega) (by omega)
    exact (stp9 0 9223372036854775808 i (by omega) x7 (by omega) (by omega) (by omega)).1
theorem P0_short {b : List UInt8} (h : b.length < 8) : P0 b = (0, ⟨b, true⟩) := by
  unfold P0 nx
  rw [if_pos (by simp [bad]; omega)]
theorem P0_long {b : List UInt8} (h : 8 ≤ b.length) : P0 b = (numOf (b.take 8), ⟨b.drop 8, false⟩) := by
  unfold P0 nx
  rw [if_neg (by simp [bad]; omega)]
theorem P0_sign {a : UInt8} {t : List UInt8} (h : 8 ≤ (a :: t).length) : (128 ≤ a.toNat → (P0 (a :: t)).1 < 0) ∧ (a.toNat < 128 → 0 ≤ (P0 (a :: t)).1) := by
  rw [P0_long h]
  obtain ⟨x, b, c, d, e, g, h', i, t', ht⟩ := eight_of _ h
  have en : numOf (List.take 8 (x :: b :: c :: d :: e :: g :: h' :: i :: t')) = stepN (stepN (stepN (stepN (stepN (stepN (stepN (stepN 0 x) b) c) d) e) g) h') i := by
    unfold numOf
    exact fold8 x b c d e g h' i t' 0
  have hx : a = x := by simp at ht; exact ht.1
  rw [ht, hx]
  simp only [en]
  exact sign8 x b c d e g h' i
theorem tail16 (x : Rg) (early : Bool) (now now' star : Int) (hE : wi now 0 1099511627776 = (!early && !decide (1099511627776 < now'))) (hN : early = false → now' = now) (s : PS) (hb : s.b.length ≤ 1000000) {σ : Env} (g : HS σ early now' star) (hx : x.cs = [] ∧ x.path = []) : wpC (Spec Try.prog) [] T16 σ (SQ x .nils s []) (EQ15 (decT now star x s)) := by
  have n1 := nx1 s
  have l1 := nx_len 1 s
  unfold T16
  simp [m16r16, g.g5, SQ]
  refine rd_num 1 (by omega) hb ?_
  rw [nr1]
  have e1 : AV.int .i64 (nx 1 s).1 = .int .i64 (((nx 1 s).1.toNat : Nat) : Int) := by congr 1; omega
  have hT : ∀ (σ : Env) (c4 : AV) (J : Heap), (cts (nx 1 s).1.toNat (nx 1 s).2).2.b.length ≤ 1000000 → AccC 3 3 (ctRows (cts (nx 1 s).1.toNat (nx 1 s).2).1) c4 J → HS σ early now' star → wpC (Spec Try.prog) [] T16b σ (SQ x c4 (cts (nx 1 s).1.toNat (nx 1 s).2).2 J) (EQ15 (decT now star x s)) := by
    intro σ c4 J hb h4 g
    have hcl := cts_len (nx 1 s).1.toNat (nx 1 s).2
    unfold decT
    generalize cts (nx 1 s).1.toNat (nx 1 s).2 = z at *
    obtain ⟨cs, t⟩ := z
    simp only at *
    have n1 := nx1 t
    have l1 := nx_len 1 t
    unfold T16b
    simp [m16r25, g.g5, SQ]
    refine rd_num 1 (by omega) hb ?_
    rw [nr1]
    have e1 : AV.int .i64 (nx 1 t).1 = .int .i64 (((nx 1 t).1.toNat : Nat) : Int) := by congr 1; omega
    simp [m16r26, g.g3, g.g5, g.g6, g.g7, g.g8, g.g9]
    rw [e1]
    refine loop16p x early now' star (nx 1 t).1.toNat (by omega) (nx 1 t).2 (by omega) c4 J fun σ c8 J2 h8 g => ?_
    have hpl := pts_len (nx 1 t).1.toNat (nx 1 t).2
    exact end16 x early now now' star hE hN _ c4 c8 J J2 cs _ h4 h8 (by omega) (by omega) g
  simp [m16r17, g.g3, g.g5, g.g6, g.g7, g.g8, g.g9]
  rw [e1]
  refine loop16 x early now' star (nx 1 s).1.toNat (by omega) (nx 1 s).2 (by omega) fun σ c4 J hb h4 g => ?_
  exact hT σ c4 J hb h4 g

def T16h : MCode := (.seq (.region m16r8 [3, 5, 6, 7, 8]) (.seq (.region m16r9 [3, 5, 6, 7, 8]) (.seq (.region m16r10 [3, 5, 6, 7, 8]) (.seq (.region m16r11 [3, 5, 6, 7, 8, 9]) (.seq (.region m16r12 [3, 5, 6, 7, 8, 9]) (.seq (.region m16r13 [3, 5, 6, 7, 8, 9]) (.seq (.region m16r14 [3, 5, 6, 7, 8, 9]) (.seq (.region m16r15 [3, 5, 6, 7, 8, 9]) T16))))))))
theorem head16 (b : List UInt8) (hb : b.length ≤ 1000000) (early : Bool) (now' : Int) (hE : wi (P0 b).1 0 1099511627776 = (!early && !decide (1099511627776 < now'))) (hN : early = false → now' = (P0 b).1) {σ : Env}
    (g3 : σ.get 3 = .ptr 0 0 0 0) (g5 : σ.get 5 = .ptr 1 0 0 0) (g6 : σ.get 6 = .ptr 2 0 0 0) (g7 : σ.get 7 = .bool early) (g8 : σ.get 8 = .int .i64 now') : wpC (Spec Try.prog) [] T16h σ (RH (P0 b).2 ZB [ZB]) (EQ15 (decV b)) := by
  have l0 : (P0 b).2.b.length ≤ 1000000 := Nat.le_trans (nx_len _ _) hb
  have l1 : (P1 b).2.b.length ≤ 1000000 := Nat.le_trans (wd_len _) l0
  have l2 : (P2 b).2.b.length ≤ 1000000 := Nat.le_trans (wd_len _) l1
  have l3 : (P3 b).2.b.length ≤ 1000000 := Nat.le_trans (sg_len _) l2
  have l4 : (P4 b).2.b.length ≤ 1000000 := Nat.le_trans (nx_len _ _) l3
  have l5 : (P5 b).2.b.length ≤ 1000000 := Nat.le_trans (sg_len _) l4
  have l6 : (P6 b).2.b.length ≤ 1000000 := Nat.le_trans (wd_len _) l5
  have l7 : (P7 b).2.b.length ≤ 1000000 := Nat.le_trans (sg_len _) l6
  unfold T16h
  simp [m16r8, g5]
  refine rd_text l0 ?_
  show putK _ _ _ _ _ (.str (P1 b).1) (RH (P1 b).2 ZB _)
  simp [RH, ZB, zrow, m16r9, g3, g5, g6, g7, g8]
  refine rd_text l1 ?_
  show putK _ _ _ _ _ (.str (P2 b).1) (RH (P2 b).2 ZB _)
  simp [RH, m16r10]
  refine rd_num 4 (by omega) l2 ?_
  rw [nr4]
  show putK _ _ _ _ _ (.int .i64 (P3 b).1) (RH (P3 b).2 ZB _)
  simp [RH, m16r11]
  refine rd_num 1 (by omega) l3 ?_
  rw [nr1]
  show putK _ _ _ _ _ (.int .i64 (P4 b).1) (RH (P4 b).2 ZB _)
  simp [RH, m16r12]
  simp [m16r13]
  refine rd_num 4 (by omega) l4 ?_
  rw [nr4]
  show putK _ _ _ _ _ (.int .i64 (P5 b).1) (RH (P5 b).2 ZB _)
  simp [RH, m16r14]
  refine rd_text l5 ?_
  show putK _ _ _ _ _ (.str (P6 b).1) (RH (P6 b).2 ZB _)
  simp [RH, m16r15]
  refine rd_num 4 (by omega) l6 ?_
  rw [nr4]
  show putK _ _ _ _ _ (.int .i64 (P7 b).1) (RH (P7 b).2 ZB _)
  simp [RH]
  exact tail16 (headR b) early (P0 b).1 now' (P4 b).1 hE hN (P7 b).2 l7 ⟨rfl, rfl, rfl, rfl, rfl, rfl⟩ ⟨rfl, rfl⟩

theorem dec16 (b : List UInt8) (hb : b.length ≤ 1000000) : Spec Try.prog 16 [.islice (rowsU8 b)] [] (decV b) [] := by
  refine spec_of_wp (C := Spec Try.prog) (fun _ _ _ _ _ h => h) mixed m16_ok (show 1 ≤ _ by decide) ?_
  unfold m16
  by_cases h8 : 8 ≤ b.length
  · have hs : (128 ≤ gb b 0 → (P0 b).1 < 0) ∧ (gb b 0 < 128 → 0 ≤ (P0 b).1) := by
      cases b with
      | nil => simp at h8
      | cons a t => exact P0_sign h8
    have h8' : (8 : Int) ≤ b.length := by omega
    have h0 : 0 < b.length := by omega
    have h0' : (0 : Int) < b.length := by omega
    have hr : (rowsU8 b)[0]? = some [.int .u8 (gb b 0)] := get_u8 (by omega)
    by_cases ha : 128 ≤ gb b 0
    · have ha' : (128 : Int) ≤ gb b 0 := by omega
      simp [m16r0, envOf, m16r1, m16r2, m16r3, h8', iaddr_is, ha', m16r4, m16r5, h0]
      have hneg := hs.1 ha
      have hst : (tkS 8 ⟨b, false⟩).2 = (P0 b).2 := by
        rw [P0_long h8]
        unfold tkS
        rw [if_neg (by simp [bad]; omega)]
        rfl
      simp [m16r6]
      refine vc_call (take40 ⟨b, false⟩ 8 (by omega) hb ZB [ZB]) ?_
      rw [hst]
      simp [RH]
      refine to_seq (head16 b hb true 0 ?_ (fun h => by cases h) rfl rfl rfl rfl rfl)
      rw [Bool.eq_iff_iff]
      simp [wi]
      omega
    · have ha' : ¬(128 : Int) ≤ gb b 0 := by omega
      simp [m16r0, envOf, m16r1, m16r2, m16r3, h8', iaddr_is, ha', m16r4, m16r5, h0]
      have hpos := hs.2 (by omega)
      simp [m16r7]
      refine rd_num (s := ⟨b, false⟩) (x0 := ZB) (J := [ZB]) 8 (by omega) hb ?_
      rw [nr8]
      show putK _ _ _ _ _ (.int .i64 (P0 b).1) (RH (P0 b).2 ZB _)
      simp [RH]
      refine to_seq (head16 b hb false (P0 b).1 ?_ (fun _ => rfl) rfl rfl rfl rfl rfl)
      rw [Bool.eq_iff_iff]
      simp [wi]
      omega
  · have e0 := P0_short (b := b) (by omega)
    have h8' : ¬(8 : Int) ≤ b.length := by omega
    simp [m16r0, envOf, m16r1, m16r2, m16r3, h8', m16r4, m16r5]
    simp [m16r7]
    refine rd_num (s := ⟨b, false⟩) (x0 := ZB) (J := [ZB]) 8 (by omega) hb ?_
    rw [nr8]
    show putK _ _ _ _ _ (.int .i64 (P0 b).1) (RH (P0 b).2 ZB _)
    simp [RH]
    exact to_seq (head16 b hb false (P0 b).1 (by rw [e0]; rfl) (fun _ => rfl) rfl rfl rfl rfl rfl)
end Go.Ab.Try.S

/- An act's bytes and their reading, in plain words. Conditions: none. -/
namespace Go.Ab.Try.S
open Go.Proofs

theorem wrp_ex (a : Int) : ∃ q, wrp .i64 a = a + 18446744073709551616 * q := by
  refine ⟨(wrp .i64 a - a) / 18446744073709551616, ?_⟩
  simp only [wrp]
  omega
theorem wrp_add (x t : Int) : wrp .i64 (x + 18446744073709551616 * t) = wrp .i64 x := by
  simp only [wrp]
  omega
theorem wrp_cong (a k c : Int) : wrp .i64 (wrp .i64 a * k + c) = wrp .i64 (a * k + c) := by
  obtain ⟨q, hq⟩ := wrp_ex a
  rw [hq, show (a + 18446744073709551616 * q) * k + c = (a * k + c) + 18446744073709551616 * (q * k) by rw [Int.add_mul, Int.mul_assoc]; omega]
  exact wrp_add _ _
theorem emod_next (n : Int) (i : Nat) : n % ((256 ^ (i + 1) : Nat) : Int) = (n / ((256 ^ i : Nat) : Int) % 256) * ((256 ^ i : Nat) : Int) + n % ((256 ^ i : Nat) : Int) := by
  have hp : 0 < ((256 ^ i : Nat) : Int) := Int.natCast_pos.2 (Nat.pow_pos (by omega))
  have e : ((256 ^ (i + 1) : Nat) : Int) = ((256 ^ i : Nat) : Int) * 256 := by rw [Nat.pow_succ]; rfl
  rw [e]
  generalize ((256 ^ i : Nat) : Int) = k at *
  have h1 := Int.mul_ediv_add_emod n k
  have h2 := Int.mul_ediv_add_emod (n / k) 256
  have h3 := Int.emod_nonneg n (Int.ne_of_gt hp)
  have h4 := Int.emod_lt_of_pos n hp
  have h5 : 0 ≤ n / k % 256 ∧ n / k % 256 < 256 := by omega
  have e2 : n = (n / k % 256 * k + n % k) + (k * 256) * (n / k / 256) := by
    have : k * (n / k) = k * (256 * (n / k / 256) + n / k % 256) := by rw [h2]
    rw [Int.mul_add, ← Int.mul_assoc] at this
    rw [Int.mul_comm (n / k % 256) k]
    omega
  have h6 : 0 ≤ n / k % 256 * k := Int.mul_nonneg h5.1 (Int.le_of_lt hp)
  have h7 : n / k % 256 * k ≤ 255 * k := Int.mul_le_mul_of_nonneg_right (by omega) (Int.le_of_lt hp)
  generalize n / k % 256 * k = y at *
  generalize n / k / 256 = z at *
  generalize n % k = u at *
  rw [e2, Int.add_mul_emod_self_left, Int.emod_eq_of_lt (by omega) (by omega)]
theorem step_wrp (z : Int) (c : UInt8) : stepN (wrp .i64 z) c = wrp .i64 (z * 256 + c.toNat) := by
  unfold stepN
  exact wrp_cong z 256 c.toNat
theorem fold_cons {f : Int → UInt8 → Int} {c : UInt8} {l : List UInt8} {z : Int} : (c :: l).foldl f z = l.foldl f (f z c) := rfl
theorem fold_num (n : Int) : ∀ (i : Nat) (z : Int), (numZ n i).foldl stepN (wrp .i64 z) = wrp .i64 (z * ((256 ^ i : Nat) : Int) + n % ((256 ^ i : Nat) : Int))
  | 0, z => by
    have e : z * ((256 ^ 0 : Nat) : Int) + n % ((256 ^ 0 : Nat) : Int) = z := by
      rw [Nat.pow_zero]
      show z * 1 + n % 1 = z
      omega
    rw [e]
    rfl
  | i + 1, z => by
    have hz : numZ n (i + 1) = byteZ n i :: numZ n i := rfl
    rw [hz, fold_cons, step_wrp, fold_num n i, byteZ_nat, emod_next n i]
    congr 1
    have e : ((256 ^ (i + 1) : Nat) : Int) = ((256 ^ i : Nat) : Int) * 256 := by rw [Nat.pow_succ]; rfl
    rw [e, Int.add_mul, Int.mul_assoc, Int.mul_comm 256, Int.add_assoc]
theorem wrp_zero : wrp .i64 0 = 0 := wrp_i64 (by omega)
theorem numOf_num (n : Int) (i : Nat) : numOf (numZ n i) = wrp .i64 (n % ((256 ^ i : Nat) : Int)) := by
  have := fold_num n i 0
  rw [wrp_zero, Int.zero_mul, Int.zero_add] at this
  unfold numOf
  exact this

theorem nx_fwd (n : Int) (size : Nat) (rest : List UInt8) : nx size ⟨numZ n size ++ rest, false⟩ = (wrp .i64 (n % ((256 ^ size : Nat) : Int)), ⟨rest, false⟩) := by
  unfold nx
  rw [if_neg (by simp [bad]; omega)]
  simp only
  rw [List.take_append_of_le_length (by simp), List.take_of_length_le (by simp), List.drop_append_of_le_length (by simp), List.drop_of_length_le (by simp), numOf_num]
  rfl
theorem nx1_fwd {n : Int} (h : 0 ≤ n ∧ n < 256) (rest : List UInt8) : nx 1 ⟨numZ n 1 ++ rest, false⟩ = (n, ⟨rest, false⟩) := by
  rw [nx_fwd]
  congr 1
  show wrp .i64 (n % 256) = n
  rw [Int.emod_eq_of_lt h.1 h.2]
  exact wrp_i64 (by omega)
theorem nx2_fwd {n : Int} (h : 0 ≤ n ∧ n < 65536) (rest : List UInt8) : nx 2 ⟨numZ n 2 ++ rest, false⟩ = (n, ⟨rest, false⟩) := by
  rw [nx_fwd]
  congr 1
  show wrp .i64 (n % 65536) = n
  rw [Int.emod_eq_of_lt h.1 h.2]
  exact wrp_i64 (by omega)
theorem nx8_fwd {n : Int} (h : 0 ≤ n ∧ n ≤ 1099511627776) (rest : List UInt8) : nx 8 ⟨numZ n 8 ++ rest, false⟩ = (n, ⟨rest, false⟩) := by
  rw [nx_fwd]
  congr 1
  show wrp .i64 (n % 18446744073709551616) = n
  rw [Int.emod_eq_of_lt h.1 (by omega)]
  exact wrp_i64 (by omega)
theorem sg_fwd {n : Int} (h : -2147483648 ≤ n ∧ n ≤ 2147483647) (rest : List UInt8) : sg ⟨numZ n 4 ++ rest, false⟩ = (n, ⟨rest, false⟩) := by
  unfold sg
  rw [nx_fwd]
  congr 1
  show wrp .i32 (wrp .i64 (n % 4294967296)) = n
  rw [wrp_i64 (by omega)]
  simp only [wrp]
  omega
theorem wd_fwd {t : List UInt8} (h : t.length < 65536) (rest : List UInt8) : wd ⟨txtB t ++ rest, false⟩ = (t, ⟨rest, false⟩) := by
  unfold wd
  have e : txtB t ++ rest = numZ t.length 2 ++ (t ++ rest) := by simp [txtB]
  rw [e, nx2_fwd (by omega)]
  unfold tkS
  rw [if_neg (by simp [bad]; omega)]
  simp
theorem cts_fwd : ∀ (l : List Ct) (rest : List UInt8), (∀ c ∈ l, c.uri.length < 65536 ∧ (0 ≤ c.q ∧ c.q < 65536) ∧ (-2147483648 ≤ c.exp ∧ c.exp ≤ 2147483647)) → cts l.length ⟨l.flatMap encC ++ rest, false⟩ = (l, ⟨rest, false⟩)
  | [], rest, _ => by simp [cts]
  | c :: t, rest, h => by
    have hc := h c (List.mem_cons_self ..)
    have ih := cts_fwd t rest fun a ha => h a (List.mem_cons_of_mem _ ha)
    have e : (c :: t).flatMap encC ++ rest = txtB c.uri ++ (numZ c.q 2 ++ (numZ c.exp 4 ++ (t.flatMap encC ++ rest))) := by simp [encC]
    rw [e, List.length_cons, cts, if_neg (by simp), wd_fwd hc.1]
    simp only
    rw [nx2_fwd hc.2.1]
    simp only
    rw [sg_fwd hc.2.2]
    simp only
    rw [ih]
theorem pts_fwd : ∀ (l : List (List UInt8)) (rest : List UInt8), (∀ c ∈ l, c.length < 65536) → pts l.length ⟨l.flatMap txtB ++ rest, false⟩ = (l, ⟨rest, false⟩)
  | [], rest, _ => by simp [pts]
  | c :: t, rest, h => by
    have hc := h c (List.mem_cons_self ..)
    have ih := pts_fwd t rest fun a ha => h a (List.mem_cons_of_mem _ ha)
    have e : (c :: t).flatMap txtB ++ rest = txtB c ++ (t.flatMap txtB ++ rest) := by simp
    rw [e, List.length_cons, pts, if_neg (by simp), wd_fwd hc]
    simp only
    rw [ih]
end Go.Ab.Try.S

/- Reading and writing an act are inverse. Conditions: none. -/
namespace Go.Ab.Try.S
open Go.Proofs

theorem starN_b (b : Bool) : (0 ≤ starN b ∧ starN b < 256) ∧ decide (starN b = 1) = b ∧ ¬1 < starN b := by cases b <;> decide
theorem dec_enc {now : Int} {r : Rg} (hok : okA now r = true) : decV (encA now r) = .tup [.int .i64 now, .agg r.row, .int .u8 0] := by
  have hk := hok
  simp only [okA, Bool.and_eq_true] at hk
  obtain ⟨hf, hw⟩ := hk
  have z := sizes hf
  have zn : 0 ≤ now ∧ now ≤ 1099511627776 := by simpa [wi] using hw
  have za := z.aor
  have zc := z.cid
  have zq := z.cseq
  have ze := z.exp
  have zi := z.inst
  have zf := z.flow
  have zs := z.cs
  have zp := z.path
  have hs := starN_b r.star
  obtain ⟨R, hR⟩ : ∃ R, R = numZ r.cs.length 1 ++ (r.cs.flatMap encC ++ (numZ r.path.length 1 ++ r.path.flatMap txtB)) := ⟨_, rfl⟩
  have e : encA now r = numZ now 8 ++ (txtB r.aor ++ (txtB r.cid ++ (numZ r.cseq 4 ++ (numZ (starN r.star) 1 ++ (numZ r.exp 4 ++ (txtB r.inst ++ (numZ r.flow 4 ++ R))))))) := by
    rw [hR]; simp [encA, encH]
  have p0 : P0 (encA now r) = (now, ⟨txtB r.aor ++ (txtB r.cid ++ (numZ r.cseq 4 ++ (numZ (starN r.star) 1 ++ (numZ r.exp 4 ++ (txtB r.inst ++ (numZ r.flow 4 ++ R)))))), false⟩) := by
    rw [e]; exact nx8_fwd zn _
  have p1 : P1 (encA now r) = (r.aor, ⟨txtB r.cid ++ (numZ r.cseq 4 ++ (numZ (starN r.star) 1 ++ (numZ r.exp 4 ++ (txtB r.inst ++ (numZ r.flow 4 ++ R))))), false⟩) := by
    rw [P1, p0]; exact wd_fwd (by omega) _
  have p2 : P2 (encA now r) = (r.cid, ⟨numZ r.cseq 4 ++ (numZ (starN r.star) 1 ++ (numZ r.exp 4 ++ (txtB r.inst ++ (numZ r.flow 4 ++ R)))), false⟩) := by
    rw [P2, p1]; exact wd_fwd (by omega) _
  have p3 : P3 (encA now r) = (r.cseq, ⟨numZ (starN r.star) 1 ++ (numZ r.exp 4 ++ (txtB r.inst ++ (numZ r.flow 4 ++ R))), false⟩) := by
    rw [P3, p2]; exact sg_fwd (by omega) _
  have p4 : P4 (encA now r) = (starN r.star, ⟨numZ r.exp 4 ++ (txtB r.inst ++ (numZ r.flow 4 ++ R)), false⟩) := by
    rw [P4, p3]; exact nx1_fwd hs.1 _
  have p5 : P5 (encA now r) = (r.exp, ⟨txtB r.inst ++ (numZ r.flow 4 ++ R), false⟩) := by
    rw [P5, p4]; exact sg_fwd (by omega) _
  have p6 : P6 (encA now r) = (r.inst, ⟨numZ r.flow 4 ++ R, false⟩) := by
    rw [P6, p5]; exact wd_fwd (by omega) _
  have p7 : P7 (encA now r) = (r.flow, ⟨R, false⟩) := by
    rw [P7, p6]; exact sg_fwd (by omega) _
  have q0 : nx 1 (⟨R, false⟩ : PS) = ((r.cs.length : Int), ⟨r.cs.flatMap encC ++ (numZ r.path.length 1 ++ r.path.flatMap txtB), false⟩) := by
    rw [hR]; exact nx1_fwd (by omega) _
  have q1 : cts (nx 1 (⟨R, false⟩ : PS)).1.toNat (nx 1 (⟨R, false⟩ : PS)).2 = (r.cs, ⟨numZ r.path.length 1 ++ r.path.flatMap txtB, false⟩) := by
    rw [q0]
    exact cts_fwd r.cs _ fun c hc => by
      have := z.ct c hc
      exact ⟨by omega, by omega, by omega⟩
  have q2 : nx 1 (⟨numZ r.path.length 1 ++ r.path.flatMap txtB, false⟩ : PS) = ((r.path.length : Int), ⟨r.path.flatMap txtB, false⟩) := nx1_fwd (by omega) _
  have q3 : pts r.path.length (⟨r.path.flatMap txtB, false⟩ : PS) = (r.path, ⟨[], false⟩) := by
    have := pts_fwd r.path [] fun c hc => by
      have := z.pt c hc
      omega
    simpa using this
  unfold decV
  rw [p7]
  unfold decT
  simp only [q1, q2, Int.toNat_natCast, q3]
  have hh : headR (encA now r) = { r with cs := [], path := [] } := by
    unfold headR
    rw [p1, p2, p3, p4, p5, p6, p7]
    simp only [hs.2.1]
  rw [hh, p0, p4]
  unfold endV
  simp only
  rw [if_neg (by simp), if_neg ?_]
  have h1 := hs.2.2
  simp [hf, hw, h1]

/-! ### from the bytes -/
theorem byteZ_div (n : Int) (j : Nat) : byteZ n (j + 1) = byteZ (n / 256) j := by
  unfold byteZ
  have e : ((256 ^ (j + 1) : Nat) : Int) = 256 * ((256 ^ j : Nat) : Int) := by rw [Nat.pow_succ, Nat.mul_comm]; rfl
  rw [e, ← Int.ediv_ediv_of_nonneg (by omega)]
theorem numZ_snoc (n : Int) : ∀ i, numZ n (i + 1) = numZ (n / 256) i ++ [byteZ n 0]
  | 0 => rfl
  | i + 1 => by
    have h1 : numZ n (i + 2) = byteZ n (i + 1) :: numZ n (i + 1) := rfl
    have h2 : numZ (n / 256) (i + 1) = byteZ (n / 256) i :: numZ (n / 256) i := rfl
    rw [h1, numZ_snoc n i, h2, byteZ_div]
    rfl
theorem byteZ_big (x q : Int) (j : Nat) (hj : j < 7) : byteZ (x + 72057594037927936 * q) j = byteZ x j := by
  unfold byteZ
  match j, hj with
  | 0, _ => congr 2; simp; omega
  | 1, _ => congr 2; simp; omega
  | 2, _ => congr 2; simp; omega
  | 3, _ => congr 2; simp; omega
  | 4, _ => congr 2; simp; omega
  | 5, _ => congr 2; simp; omega
  | 6, _ => congr 2; simp; omega
theorem numZ_big (x q : Int) : ∀ i, i ≤ 7 → numZ (x + 72057594037927936 * q) i = numZ x i
  | 0, _ => rfl
  | i + 1, h => by
    have h1 : numZ (x + 72057594037927936 * q) (i + 1) = byteZ (x + 72057594037927936 * q) i :: numZ (x + 72057594037927936 * q) i := rfl
    have h2 : numZ x (i + 1) = byteZ x i :: numZ x i := rfl
    rw [h1, h2, byteZ_big x q i (by omega), numZ_big x q i (by omega)]
theorem wrp_parts (x : Int) (c : Nat) (hc : c < 256) : ∃ q, wrp .i64 (x * 256 + c) / 256 = x + 72057594037927936 * q ∧ wrp .i64 (x * 256 + c) % 256 = c := by
  obtain ⟨q, hq⟩ := wrp_ex (x * 256 + c)
  refine ⟨q, ?_⟩
  rw [hq]
  omega
theorem num_step (x : Int) (c : UInt8) (k : Nat) (hk : k ≤ 7) : numZ (stepN x c) (k + 1) = numZ x k ++ [c] := by
  rw [numZ_snoc]
  obtain ⟨q, h1, h2⟩ := wrp_parts x c.toNat c.toNat_lt
  unfold stepN
  rw [h1, numZ_big x q k hk]
  congr 2
  unfold byteZ
  have e : ((256 ^ 0 : Nat) : Int) = 1 := by rw [Nat.pow_zero]; rfl
  rw [e, Int.ediv_one, h2]
  simp
theorem num_fold : ∀ (d : List UInt8) (x : Int) (p : List UInt8), p.length + d.length ≤ 8 → numZ x p.length = p → numZ (d.foldl stepN x) (p.length + d.length) = p ++ d
  | [], x, p, _, h => by simpa using h
  | c :: d, x, p, hl, h => by
    have h1 : numZ (stepN x c) (p ++ [c]).length = p ++ [c] := by
      rw [List.length_append, List.length_singleton, num_step x c _ (by simp at hl; omega), h]
    have := num_fold d (stepN x c) (p ++ [c]) (by simp at hl ⊢; omega) h1
    rw [fold_cons]
    simpa [Nat.add_assoc, Nat.add_comm 1] using this
theorem numOf_rev (d : List UInt8) (h : d.length ≤ 8) : numZ (numOf d) d.length = d := by
  have := num_fold d 0 [] (by simpa using h) rfl
  simpa [numOf] using this
end Go.Ab.Try.S

/- What was read is written back as it was. Conditions: none. -/
namespace Go.Ab.Try.S
open Go.Proofs

theorem nx_rev {size : Nat} {s : PS} (hs : size ≤ 8) (h : (nx size s).2.short = false) : s.short = false ∧ s.b = numZ (nx size s).1 size ++ (nx size s).2.b := by
  by_cases hb : bad size s = true
  · have e : nx size s = (0, ⟨s.b, true⟩) := by unfold nx; rw [if_pos hb]
    rw [e] at h
    cases h
  · have e : nx size s = (numOf (s.b.take size), ⟨s.b.drop size, false⟩) := by unfold nx; rw [if_neg hb]
    have hb2 : s.short = false ∧ size ≤ s.b.length := by
      simp only [bad, Bool.or_eq_true, decide_eq_true_eq, not_or] at hb
      exact ⟨by simpa using hb.1, by omega⟩
    refine ⟨hb2.1, ?_⟩
    rw [e]
    simp only
    have hl : (s.b.take size).length = size := by simp; omega
    have := numOf_rev (s.b.take size) (by omega)
    rw [hl] at this
    rw [this, List.take_append_drop]
theorem sg_num (s : PS) : numZ (sg s).1 4 = numZ (nx 4 s).1 4 := by
  have n4 := nx4 s
  unfold sg
  rw [sgn_of n4.1 n4.2]
  split
  · have := numZ_wrap ((nx 4 s).1 - 4294967296) 4 (by omega)
    rw [← this, Int.sub_add_cancel]
  · rfl
theorem sg_rev {s : PS} (h : (sg s).2.short = false) : s.short = false ∧ s.b = numZ (sg s).1 4 ++ (sg s).2.b := by
  have := nx_rev (size := 4) (by omega) (s := s) h
  rw [sg_num]
  exact this
theorem wd_rev {s : PS} (h : (wd s).2.short = false) : s.short = false ∧ s.b = txtB (wd s).1 ++ (wd s).2.b ∧ (wd s).1.length < 65536 := by
  have n2 := nx2 s
  unfold wd at h ⊢
  by_cases hb : bad (nx 2 s).1 (nx 2 s).2 = true
  · have e : tkS (nx 2 s).1 (nx 2 s).2 = ([], ⟨(nx 2 s).2.b, true⟩) := by unfold tkS; rw [if_pos hb]
    rw [e] at h
    cases h
  · have e : tkS (nx 2 s).1 (nx 2 s).2 = ((nx 2 s).2.b.take (nx 2 s).1.toNat, ⟨(nx 2 s).2.b.drop (nx 2 s).1.toNat, false⟩) := by unfold tkS; rw [if_neg hb]
    have hb2 : (nx 2 s).2.short = false ∧ (nx 2 s).1 ≤ (nx 2 s).2.b.length := by
      simp only [bad, Bool.or_eq_true, decide_eq_true_eq, not_or] at hb
      exact ⟨by simpa using hb.1, by omega⟩
    have hr := nx_rev (by omega) hb2.1
    refine ⟨hr.1, ?_, ?_⟩
    · rw [e]
      simp only
      have hl : (((nx 2 s).2.b.take (nx 2 s).1.toNat).length : Int) = (nx 2 s).1 := by simp; omega
      unfold txtB
      rw [hl, List.append_assoc, List.take_append_drop]
      exact hr.2
    · rw [e]
      simp
      omega
theorem cts_rev : ∀ (n : Nat) (s : PS), (cts n s).2.short = false → s.short = false ∧ (cts n s).1.length = n ∧ s.b = (cts n s).1.flatMap encC ++ (cts n s).2.b
  | 0, s, h => ⟨h, rfl, by simp [cts]⟩
  | n + 1, s, h => by
    by_cases hs : s.short = true
    · rw [cts, if_pos hs] at h
      rw [hs] at h; cases h
    · have e : cts (n + 1) s = (⟨(wd s).1, (nx 2 (wd s).2).1, (sg (nx 2 (wd s).2).2).1⟩ :: (cts n (sg (nx 2 (wd s).2).2).2).1, (cts n (sg (nx 2 (wd s).2).2).2).2) := by rw [cts, if_neg hs]
      rw [e] at h
      have ih := cts_rev n _ h
      have h3 := sg_rev ih.1
      have h2 := nx_rev (by omega) h3.1
      have h1 := wd_rev h2.1
      rw [e]
      refine ⟨h1.1, by simp [ih.2.1], ?_⟩
      simp only [List.flatMap_cons, encC]
      rw [h1.2.1]
      simp only [List.append_assoc]
      congr 1
      rw [h2.2]
      congr 1
      rw [h3.2]
      congr 1
      exact ih.2.2
theorem pts_rev : ∀ (n : Nat) (s : PS), (pts n s).2.short = false → s.short = false ∧ (pts n s).1.length = n ∧ s.b = (pts n s).1.flatMap txtB ++ (pts n s).2.b
  | 0, s, h => ⟨h, rfl, by simp [pts]⟩
  | n + 1, s, h => by
    by_cases hs : s.short = true
    · rw [pts, if_pos hs] at h
      rw [hs] at h; cases h
    · have e : pts (n + 1) s = ((wd s).1 :: (pts n (wd s).2).1, (pts n (wd s).2).2) := by rw [pts, if_neg hs]
      rw [e] at h
      have ih := pts_rev n _ h
      have h1 := wd_rev ih.1
      rw [e]
      refine ⟨h1.1, by simp [ih.2.1], ?_⟩
      simp only [List.flatMap_cons]
      rw [h1.2.1, List.append_assoc]
      congr 1
      exact ih.2.2

/-- The registration that is read, and the rest. -/
def ctD (b : List UInt8) : List Ct × PS := cts (nx 1 (P7 b).2).1.toNat (nx 1 (P7 b).2).2
def ptD (b : List UInt8) : List (List UInt8) × PS := pts (nx 1 (ctD b).2).1.toNat (nx 1 (ctD b).2).2
def regD (b : List UInt8) : Rg := { headR b with cs := (ctD b).1, path := (ptD b).1 }
theorem decV_eq (b : List UInt8) : decV b = endV (P0 b).1 (P4 b).1 (regD b) (ptD b).2 := rfl
theorem enc_dec {b : List UInt8} (h1 : (ptD b).2.short = false) (h2 : (ptD b).2.b.length = 0) (h3 : ¬1 < (P4 b).1) : encA (P0 b).1 (regD b) = b := by
  have q3 := pts_rev _ _ h1
  have q2 := nx_rev (by omega) q3.1
  have q1 := cts_rev _ _ q2.1
  have q0 := nx_rev (by omega) q1.1
  have p7 := sg_rev q0.1
  have p6 := wd_rev p7.1
  have p5 := sg_rev p6.1
  have p4 := nx_rev (by omega) p5.1
  have p3 := sg_rev p4.1
  have p2 := wd_rev p3.1
  have p1 := wd_rev p2.1
  have p0 := nx_rev (size := 8) (by omega) (s := ⟨b, false⟩) p1.1
  have n1 := nx1 (P7 b).2
  have n2 := nx1 (ctD b).2
  have n4 := nx1 (P3 b).2
  have hst : starN (decide ((P4 b).1 = 1)) = (P4 b).1 := by
    have : (P4 b).1 = 0 ∨ (P4 b).1 = 1 := by
      have : (P4 b).1 = (nx 1 (P3 b).2).1 := rfl
      omega
    rcases this with h | h <;> rw [h] <;> rfl
  have c1 : ((ctD b).1.length : Int) = (nx 1 (P7 b).2).1 := by
    have : (ctD b).1.length = (nx 1 (P7 b).2).1.toNat := q1.2.1
    omega
  have c2 : ((ptD b).1.length : Int) = (nx 1 (ctD b).2).1 := by
    have : (ptD b).1.length = (nx 1 (ctD b).2).1.toNat := q3.2.1
    omega
  have hz : (ptD b).2.b = [] := List.eq_nil_of_length_eq_zero h2
  unfold encA encH regD headR
  simp only [hst, c1, c2, List.append_assoc]
  have e0 : b = numZ (P0 b).1 8 ++ (P0 b).2.b := p0.2
  have e1 : (P0 b).2.b = txtB (P1 b).1 ++ (P1 b).2.b := p1.2.1
  have e2 : (P1 b).2.b = txtB (P2 b).1 ++ (P2 b).2.b := p2.2.1
  have e3 : (P2 b).2.b = numZ (P3 b).1 4 ++ (P3 b).2.b := p3.2
  have e4 : (P3 b).2.b = numZ (P4 b).1 1 ++ (P4 b).2.b := p4.2
  have e5 : (P4 b).2.b = numZ (P5 b).1 4 ++ (P5 b).2.b := p5.2
  have e6 : (P5 b).2.b = txtB (P6 b).1 ++ (P6 b).2.b := p6.2.1
  have e7 : (P6 b).2.b = numZ (P7 b).1 4 ++ (P7 b).2.b := p7.2
  have f0 : (P7 b).2.b = numZ (nx 1 (P7 b).2).1 1 ++ (nx 1 (P7 b).2).2.b := q0.2
  have f1 : (nx 1 (P7 b).2).2.b = (ctD b).1.flatMap encC ++ (ctD b).2.b := q1.2.2
  have f2 : (ctD b).2.b = numZ (nx 1 (ctD b).2).1 1 ++ (nx 1 (ctD b).2).2.b := q2.2
  have f3 : (nx 1 (ctD b).2).2.b = (ptD b).1.flatMap txtB ++ (ptD b).2.b := q3.2.2
  rw [hz, List.append_nil] at f3
  rw [← f3, ← f2, ← f1, ← f0, ← e7, ← e6, ← e5, ← e4, ← e3, ← e2, ← e1, ← e0]
end Go.Ab.Try.S
