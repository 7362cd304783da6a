/- Trim with the digits as its set. Conditions: none. -/
import Derived.Test.YtjckmpmnomkmlaaDoorJ37Con
import Derived.Test.YtjckmpmnomkmlaaDoorAbLaw
import Derived.Test.YtjckmpmnomkmlaaDoorAbEval2
namespace Go.Ab.Tryd.S
open Go.Proofs

def digs : List UInt8 := [48, 49, 50, 51, 52, 53, 54, 55, 56, 57]
def asRow : Row := (List.range 256).map fun n => AV.bool (decide (48 ≤ n) && decide (n ≤ 57))
theorem asRow_len : asRow.length = 256 := by simp [asRow]
theorem asRow_at {n : Nat} (h : n < 256) : asRow[n]? = some (.bool (decide (48 ≤ n) && decide (n ≤ 57))) := by simp [asRow, h]
theorem asRow_ok : okRow asRow = true := by kernel_rfl
theorem asRow_cl : Cl 0 (.agg asRow) := by
  refine Cls.agg fun i c h => ?_
  unfold asRow at h
  rw [List.getElem?_map] at h
  simp only [Option.map_eq_some_iff] at h
  obtain ⟨n, _, rfl⟩ := h
  exact .bool

theorem set_eval : (evFn (look [(51, m51)]) 100000 100 51 [.str digs] []).map Prod.fst = some (.tup [.agg asRow, .bool true]) := by kernel_rfl
theorem set51 : Spec Tryd.prog 51 [.str digs] [] (.tup [.agg asRow, .bool true]) [] := by
  have h := set_eval
  rw [Option.map_eq_some_iff] at h
  obtain ⟨⟨v, H'⟩, h1, rfl⟩ := h
  exact (evFn_ok mixed (Tbl.look (.cons m51_ok .nil)) _ _ _ _ _ _ h1).frozen (.refl (Cls.cons asRow_cl (Cls.cons .bool .nil)).tup)

theorem cont56 {H : Heap} {r : Nat} (hr : H[r]? = some (.rows 0 256 [asRow])) (b : UInt8) : Spec Tryd.prog 56 [.ptr r 0 0 0, .int .u8 b.toNat] H (.bool (digB b)) H := by
  refine spec_of_wp (C := Spec Tryd.prog) (fun _ _ _ _ _ h => h) mixed m56_ok (show 2 ≤ _ by decide) ?_
  unfold m56
  have h1 : b.toNat < 256 := b.toNat_lt
  have h2 : (b.toNat : Int) < 256 := by omega
  simp [m56r0, m56r1, envOf, aaddrAV, h2, row_of hr, asRow_at h1]
  exact fin_of rfl

def L52 (s : List UInt8) (r : Nat) (H0 : Heap) (m : Nat) (σ : Env) (H : Heap) : Prop := ∃ t : List UInt8, m = t.length ∧ t.dropWhile digB = s.dropWhile digB ∧ t.length ≤ 100 ∧ H = H0 ∧ σ = [(0, .str t), (1, .ptr r 0 0 0)]
theorem left52 {H : Heap} {r : Nat} (hr : H[r]? = some (.rows 0 256 [asRow])) (s : List UInt8) (hs : s.length ≤ 100) : Spec Tryd.prog 52 [.str s, .ptr r 0 0 0] H (.str (s.dropWhile digB)) H := by
  refine spec_of_wp (C := Spec Tryd.prog) (fun _ _ _ _ _ h => h) mixed m52_ok (show 2 ≤ _ by decide) ?_
  unfold m52
  simp [m52r0, envOf]
  refine vc_loop (L52 s r H) s.length ⟨s, rfl, rfl, hs, rfl, rfl⟩ ?_
  rintro m σ H1 ⟨t, rfl, ht, htl, rfl, rfl⟩
  rw [← ht]
  match t with
  | [] =>
    simp [m52l4, m52r1, m52r5]
    exact fin_of rfl
  | b :: t =>
    have h0 : (0 : Int) < ((t.length : Int) + 1) := by omega
    simp [m52l4, m52r1, m52r2, h0]
    refine vc_call (cont56 hr b) ?_
    by_cases hb : digB b = true
    · have hd : (b :: t).dropWhile digB = t.dropWhile digB := by simp [List.dropWhile_cons, hb]
      simp [hb, m52r3]
      refine ⟨t.length, by omega, t, rfl, by rw [← ht, hd], by simp at htl; omega, rfl, rfl⟩
    · have hb : digB b = false := by simpa using hb
      have hd : (b :: t).dropWhile digB = b :: t := by simp [List.dropWhile_cons, hb]
      simp [hb, m52r5]
      exact fin_of rfl

def rdrop (s : List UInt8) : List UInt8 := (s.reverse.dropWhile digB).reverse
theorem rdrop_c (s : List UInt8) (b : UInt8) : rdrop (s ++ [b]) = if digB b = true then rdrop s else s ++ [b] := by
  unfold rdrop
  rw [List.reverse_append, List.reverse_singleton, List.singleton_append, List.dropWhile_cons]
  split <;> simp
def L53 (s : List UInt8) (r : Nat) (H0 : Heap) (m : Nat) (σ : Env) (H : Heap) : Prop := ∃ t : List UInt8, m = t.length ∧ rdrop t = rdrop s ∧ t.length ≤ 100 ∧ H = H0 ∧ σ = [(0, .str t), (1, .ptr r 0 0 0)]
theorem right53 {H : Heap} {r : Nat} (hr : H[r]? = some (.rows 0 256 [asRow])) (s : List UInt8) (hs : s.length ≤ 100) : Spec Tryd.prog 53 [.str s, .ptr r 0 0 0] H (.str (rdrop s)) H := by
  refine spec_of_wp (C := Spec Tryd.prog) (fun _ _ _ _ _ h => h) mixed m53_ok (show 2 ≤ _ by decide) ?_
  unfold m53
  simp [m53r0, envOf]
  refine vc_loop (L53 s r H) s.length ⟨s, rfl, rfl, hs, rfl, rfl⟩ ?_
  rintro m σ H1 ⟨t, rfl, ht, htl, rfl, rfl⟩
  rw [← ht]
  rcases List.eq_nil_or_concat t with rfl | ⟨t, b, rfl⟩
  · simp [m53l4, m53r1, m53r5]
    exact fin_of rfl
  · simp only [List.concat_eq_append] at *
    have hl : (t ++ [b]).length = t.length + 1 := by simp
    rw [hl] at htl
    have h0 : (0 : Int) < ((t.length : Int) + 1) := by omega
    have z : FI (wrp .i64 ((t.length : Int) + 1 - 1)) t.length := ⟨by rw [wrp_i64 (by omega)]; omega⟩
    have z' : FI (wrp .i64 ((t.length : Int))) t.length := fi64 (by omega)
    simp [m53l4, m53r1, m53r2, h0, z.o, z'.o]
    refine vc_call (cont56 hr b) ?_
    by_cases hb : digB b = true
    · simp [hb, m53r3, z.o, z'.o]
      refine ⟨t.length, by omega, t, rfl, by rw [← ht, rdrop_c, if_pos hb], by omega, rfl, rfl⟩
    · have hb : digB b = false := by simpa using hb
      simp [hb, m53r5]
      exact fin_of (by rw [rdrop_c, hb]; rfl)

theorem dw_nil {p : UInt8 → Bool} : ∀ {l : List UInt8}, l.dropWhile p = [] → ∀ x ∈ l, p x = true
  | [], _, x, hx => by simp at hx
  | a :: l, h, x, hx => by
    rw [List.dropWhile_cons] at h
    by_cases ha : p a = true
    · rw [if_pos ha] at h
      rcases List.mem_cons.1 hx with rfl | hx
      · exact ha
      · exact dw_nil h x hx
    · rw [if_neg ha] at h; cases h
def trimF (s : List UInt8) : List UInt8 := (rdrop s).dropWhile digB
theorem trim_nil (s : List UInt8) : decide (trimF s = []) = s.all digB := by
  unfold trimF rdrop
  rw [Bool.eq_iff_iff, decide_eq_true_eq, ← List.all_reverse]
  generalize s.reverse = l
  induction l with
  | nil => simp
  | cons a l ih =>
    rw [List.dropWhile_cons]
    by_cases ha : digB a = true
    · rw [if_pos ha, ih]; simp [ha]
    · rw [if_neg ha]
      simp only [List.all_cons, Bool.and_eq_true]
      constructor
      · intro h
        have := dw_nil h a (by simp)
        exact absurd this ha
      · rintro ⟨h, _⟩; exact absurd h ha

def z256 : Row := List.replicate 256 (AV.bool false)
theorem rep256 : z256.length = 256 := List.length_replicate
theorem rep256ok : okRow z256 = true := by kernel_rfl
def m44r6' : List MOper := [⟨.mv (.tmp 1), none, (some 30), [1]⟩,
  ⟨.call 51 [(.tmp 30)], none, (some 31), [30]⟩,
  ⟨.mv (.tmp 31), none, (some 29), [31]⟩,
  ⟨.ext 0 (.tmp 29), none, (some 32), [29]⟩,
  ⟨.ext 1 (.tmp 29), none, (some 33), [29]⟩,
  ⟨.zbox z256, none, (some 5), []⟩,
  ⟨.store 256 (.tmp 5) (.tmp 32), none, none, [5, 32]⟩,
  ⟨.mv (.tmp 33), none, (some 6), [33]⟩]
theorem m44r6_eq : m44r6 = m44r6' := by kernel_rfl
theorem digs_eq : [48, 49, 50, 51, 52, 53, 54, 55, 56, 57] = digs := rfl
theorem digs_len : digs.length = 10 := rfl
theorem digs_nil : (digs = []) = False := by simp [digs]

theorem trim44 (s : List UInt8) (hs : s.length ≤ 100) : Spec Tryd.prog 44 [.str s, .str digs] [] (.str (trimF s)) [] := by
  refine spec_of_wp (C := Spec Tryd.prog) (fun _ _ _ _ _ h => h) mixed m44_ok (show 2 ≤ _ by decide) ?_
  unfold m44
  simp +contextual [m44r0, m44r1, envOf, digs_nil, -condK_bool]
  refine condK_of (y := decide (s = [])) (by simp) (fun h => ?_) (fun h => ?_)
  · simp at h
    subst h
    simp [m44r2]
    exact fin_of rfl
  simp +contextual [m44r3, digs_len, m44r6_eq]
  simp only [m44r6']
  simp
  refine vc_call set51 ?_
  have hlen : asRow.length = 256 := asRow_len
  have hd : z256.drop 256 = [] := by rw [List.drop_eq_nil_iff, rep256]; omega
  simp [asRow_ok, asRow_len, rep256, rep256ok, hd, m44r7, m44r8]
  refine vc_call (right53 rfl s hs) ?_
  simp
  refine vc_call (left52 rfl (rdrop s) ?_) ?_
  · unfold rdrop
    rw [List.length_reverse]
    exact Nat.le_trans (List.dropWhile_sublist _).length_le (by simpa using hs)
  simp
  exact fin_drop (.refl .str)
end Go.Ab.Tryd.S
