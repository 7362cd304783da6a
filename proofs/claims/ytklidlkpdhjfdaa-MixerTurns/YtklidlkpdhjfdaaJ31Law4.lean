/- MixerTurns: the law's function returns true. Conditions: none. -/
import Derived.Test.YtklidlkpdhjfdaaJ31Mix2
import Derived.Test.YtklidlkpdhjfdaaJ31Lives
namespace Go.Ab.Try.S
open Go.Proofs
open Go.Ab.Try.V (lives8)

/-! ### few -/
def fewOk (l : List (List Int)) (n : Int) : Bool := decide (l.length ≤ 70) && !(decide (100 < n) && decide (n ≤ 8000)) && l.all fun f => decide (f.length ≤ 300)
def FewI (l : List (List Int)) (m : Nat) (σ : Env) (H : Heap) : Prop := ∃ k : Nat, m = l.length - k ∧ k ≤ l.length ∧ (∀ i, (h : i < l.length) → i < k → l[i].length ≤ 300) ∧ H = [] ∧ σ = [(0, .islice (frRows l)), (5, .int .i64 k)]

theorem few12 (l : List (List Int)) (n : Int) : Spec Try.prog 12 [.islice (frRows l), .int .i64 n] [] (.bool (fewOk l n)) [] := by
  refine spec_of_wp (C := Spec Try.prog) (fun _ _ _ _ _ h => h) mixed m12_ok (show 2 ≤ _ by decide) ?_
  unfold m12
  simp +contextual [m12r0, m12r1, m12r2, m12r3, envOf]
  refine ⟨fun h => fin_bool ?_, fun h1 h2 => ?_⟩
  · symm
    unfold fewOk
    rcases h with h | h
    · rw [decide_eq_false (by omega)]; rfl
    · rw [decide_eq_true h.1, decide_eq_true h.2]; simp
  have hc : fewOk l n = l.all fun f => decide (f.length ≤ 300) := by
    unfold fewOk
    rw [decide_eq_true (by omega)]
    have : (decide (100 < n) && decide (n ≤ 8000)) = false := by
      by_cases h3 : 100 < n
      · rw [decide_eq_false (show ¬ n ≤ 8000 by have := h2 h3; omega)]; simp
      · rw [decide_eq_false h3]; rfl
    rw [this]; rfl
  refine vc_loop (FewI l) l.length ⟨0, rfl, by omega, fun i _ h => by omega, rfl, rfl⟩ ?_
  rintro m σ H ⟨k, rfl, hk, ht, rfl, rfl⟩
  by_cases hlt : k < l.length
  · have hlt2 : (k : Int) < l.length := by omega
    have z : FI (wrp .i64 ((k : Int) + 1)) (k + 1) := fi64 (by omega)
    simp [m12l8, m12r4, m12r5, m12r6, m12r7, iaddr_is, hlt, hlt2, z.o]
    refine ⟨fun h => fin_bool ?_, fun h => ?_⟩
    · rw [hc]
      symm
      rw [List.all_eq_false]
      exact ⟨l[k], List.getElem_mem hlt, by simp; omega⟩
    · refine ⟨l.length - (k + 1), Nat.sub_succ_lt_self _ _ hlt, k + 1, rfl, hlt, fun i hi hik => ?_, rfl, rfl⟩
      by_cases e : i = k
      · subst e; omega
      · exact ht i hi (by omega)
  · have hk2 : k = l.length := by omega
    subst hk2
    simp [m12l8, m12r4, m12r9]
    refine fin_bool ?_
    rw [hc]
    symm
    rw [List.all_eq_true]
    intro f hf
    obtain ⟨i, hi, rfl⟩ := List.getElem_of_mem hf
    simpa using ht i hi hi

theorem few_ok {l : List (List Int)} {n : Int} (h : fewOk l n = true) : l.length ≤ 70 ∧ ∀ f ∈ l, f.length ≤ 300 := by
  unfold fewOk at h
  simp only [Bool.and_eq_true, decide_eq_true_eq, List.all_eq_true] at h
  exact ⟨h.1.1, h.2⟩

/-! ### two frames exchanged -/
def swapL {α : Type} (l : List α) (i k : Nat) (hi : i < l.length) (hk : k < l.length) : List α := (l.set i l[k]).set k l[i]
@[simp] theorem swap_len {α : Type} {l : List α} {i k : Nat} (hi : i < l.length) (hk : k < l.length) : (swapL l i k hi hk).length = l.length := by simp [swapL]
theorem swap_swap {α : Type} {l : List α} {i k : Nat} (hi : i < l.length) (hk : k < l.length) : swapL (swapL l i k hi hk) i k (by simpa using hi) (by simpa using hk) = l := by
  refine List.ext_getElem (by simp) fun j h1 h2 => ?_
  simp only [swapL, List.getElem_set]
  by_cases hjk : k = j
  · subst hjk
    by_cases hik : k = i
    · simp [hik]
    · simp [hik]
  · by_cases hij : i = j
    · subst hij; simp [hjk]
    · simp [hjk, hij]
theorem swap_map {α β : Type} (f : α → β) {l : List α} {i k : Nat} (hi : i < l.length) (hk : k < l.length) : (swapL l i k hi hk).map f = swapL (l.map f) i k (by simpa using hi) (by simpa using hk) := by
  simp [swapL, List.map_set]
theorem sum_set : ∀ (l : List (List Int)) (i : Nat) (h : i < l.length) (f : List Int) (t : Nat), sumAt (l.set i f) t = sumAt l t - atI l[i] t + atI f t
  | x :: l, 0, h, f, t => by simp only [List.set_cons_zero, sumAt, List.getElem_cons_zero]; omega
  | x :: l, i + 1, h, f, t => by
    have := sum_set l i (by simpa using h) f t
    simp only [List.set_cons_succ, sumAt, List.getElem_cons_succ, this]
    omega
theorem sum_swap {l : List (List Int)} {i k : Nat} (hi : i < l.length) (hk : k < l.length) (t : Nat) : sumAt (swapL l i k hi hk) t = sumAt l t := by
  unfold swapL
  rw [sum_set _ _ (by simpa using hk), sum_set _ _ hi, List.getElem_set]
  by_cases h : i = k
  · subst h; simp
  · simp [h]
theorem mix_swap {l : List (List Int)} {i k n : Nat} (hi : i < l.length) (hk : k < l.length) : mixF (swapL l i k hi hk) n = swapL (mixF l n) i k (by simpa [mixF] using hi) (by simpa [mixF] using hk) := by
  unfold mixF
  rw [swap_map]
  have : mix1 (swapL l i k hi hk) n = mix1 l n := by
    funext f
    simp only [mix1, sum_swap]
  simp only [this]
theorem swap_mem {α : Type} {l : List α} {i k : Nat} (hi : i < l.length) (hk : k < l.length) {x : α} (h : x ∈ swapL l i k hi hk) : x ∈ l := by
  unfold swapL at h
  rcases List.mem_or_eq_of_mem_set h with h | h
  · rcases List.mem_or_eq_of_mem_set h with h | h
    · exact h
    · rw [h]; exact List.getElem_mem hk
  · rw [h]; exact List.getElem_mem hi

@[simp] theorem frRows_set {l : List (List Int)} {i : Nat} {f : List Int} : (frRows l).set i [.islice (rowsI16 f)] = frRows (l.set i f) := by
  simp [frRows, List.map_set, frRow]

theorem rem_len (a : UInt8) {n : Nat} (h : 0 < n) : ∃ i : Nat, i < n ∧ FI ((a.toNat : Int).tmod (n : Int)) i := by
  refine ⟨a.toNat % n, Nat.mod_lt _ h, ⟨?_⟩⟩
  rw [Int.tmod_eq_emod_of_nonneg (by omega)]
  simp

theorem law4 (l : List (List Int)) (a b : UInt8) (hok : ∀ f ∈ l, okF f) : ∃ H', Spec Try.prog 4 [.islice (frRows l), .int .u8 a.toNat, .int .u8 b.toNat] [] (.bool true) H' := by
  refine ⟨[], spec_of_wp (C := Spec Try.prog) (fun _ _ _ _ _ h => h) mixed m4_ok (show 3 ≤ _ by decide) ?_⟩
  unfold m4
  simp [m4r0, m4r1, envOf]
  refine vc_call ((few12 l 40).frame (Cls.cons (cl_plain (frRows_plain l)) (Cls.cons .int .nil)) .bool _) ?_
  by_cases hf : fewOk l 40 = true
  · obtain ⟨f1, f2⟩ := few_ok hf
    by_cases h64 : l.length ≤ 64
    · by_cases h0 : l = []
      · subst h0
        rw [hf]
        simp [m4r2]
        refine vc_call (lives8 _) ?_
        simp
        exact fin_bool rfl
      have hlp := List.length_pos_iff.2 h0
      have h1 : ¬ (64 : Int) < l.length := by omega
      simp [hf, h0, h1]
      obtain ⟨i, hi, ei⟩ := rem_len a hlp
      obtain ⟨k, hk, ek⟩ := rem_len b hlp
      have hi2 : (i : Int) < l.length := by omega
      have hk2 : (k : Int) < l.length := by omega
      have ea : FI (wrp .i64 (a.toNat : Int)) a.toNat := fi64 (by have := a.toNat_lt; omega)
      have eb : FI (wrp .i64 (b.toNat : Int)) b.toNat := fi64 (by have := b.toNat_lt; omega)
      simp [m4r3, m4r4, m4r5, m4r6, ea.o, eb.o, ei.o, ek.o, h0]
      refine Acc1.nil.append (l := []) (news := frRows l) rfl (frRows_row l) (by simp [roomB]; omega) fun c H' hacc => ?_
      rcases hacc with ⟨h5, _, _⟩ | ⟨g, rfl, rfl⟩
      · have := congrArg List.length h5; simp at this; exact absurd this h0
      simp [m4r7, m4r8, iaddr_is, iaddr_sl, hi, hk, hi2, hk2]
      have hok2 : ∀ f ∈ swapL l i k hi hk, okF f := fun f hf => hok f (swap_mem hi hk hf)
      have h13 := (mix13 l 40 (by omega) h64 hok).frame (Cls.cons (cl_plain (frRows_plain l)) (Cls.cons .int .nil)) (Cls.cons (cl_plain (frRows_plain _)) (Cls.cons .int .nil)).tup
      have h13b := (mix13 (swapL l i k hi hk) 40 (by omega) (by simpa using h64) hok2).frame (Cls.cons (cl_plain (frRows_plain _)) (Cls.cons .int .nil)) (Cls.cons (cl_plain (frRows_plain _)) (Cls.cons .int .nil)).tup
      have hxl : (mixF l 40).length = l.length := by simp [mixF]
      have hxf : ∀ f ∈ mixF l 40, f.length = 40 := by
        intro f hf
        obtain ⟨g, _, rfl⟩ := List.mem_map.1 hf
        simp [mix1]
      rw [mix_swap hi hk] at h13b
      obtain ⟨x, hx⟩ : ∃ x, x = mixF l 40 := ⟨_, rfl⟩
      rw [← hx] at h13 hxl hxf
      have hxi : i < x.length := by omega
      have hxk : k < x.length := by omega
      have e2 : (swapL x i k hxi hxk).length = l.length := by rw [swap_len]; exact hxl
      have h13c : ∀ H, Spec Try.prog 13 [.islice (frRows (swapL l i k hi hk)), .int .i64 (40 : Nat)] H (.tup [.islice (frRows (swapL x i k hxi hxk)), .int .u8 0]) H := by
        subst hx; exact h13b
      clear h13b hx
      simp [m4r9]
      refine vc_call (h13 _) ?_
      simp
      refine vc_conv (σ' := [(0, .islice (frRows l)), (7, .int .i64 i), (8, .int .i64 k), (9, .islice (frRows (swapL l i k hi hk))), (10, .islice (frRows x)), (11, .int .u8 0)]) (conv_drop ?_) ?_
      · simp
        exact ⟨.refl (cl_plain (frRows_plain l)), .refl .int, .refl .int, freeze_all (rs := frRows (swapL l i k hi hk)) rfl (by simp) (by simp) (frRows_row _) (frRows_plain _), .refl (cl_plain (frRows_plain _)), .refl .int⟩
      simp [m4r10]
      refine vc_call (h13c _) ?_
      simp [m4r11, hxl, m4r13, m4r14]
      have hs0 : swapL x i k hxi hxk ≠ [] := by
        intro h; rw [h] at e2; simp at e2; omega
      refine Acc1.nil.append (l := []) (news := frRows (swapL x i k hxi hxk)) rfl (frRows_row _) (by simp [roomB]; omega) fun c H' hacc => ?_
      rcases hacc with ⟨h5, _, _⟩ | ⟨g2, rfl, rfl⟩
      · have := congrArg List.length h5; simp at this; exact absurd (List.length_eq_zero_iff.1 (by simpa using this)) (by intro h; apply hs0; rw [← List.length_eq_zero_iff, swap_len, h]; rfl)
      have hsi : i < (swapL x i k hxi hxk).length := by omega
      have hsk : k < (swapL x i k hxi hxk).length := by omega
      have hsi2 : (i : Int) < x.length := by omega
      have hsk2 : (k : Int) < x.length := by omega
      have hback : ((swapL x i k hxi hxk).set i (swapL x i k hxi hxk)[k]).set k (swapL x i k hxi hxk)[i] = x := swap_swap hxi hxk
      generalize swapL x i k hxi hxk = y at *
      have hyl : y.length = x.length := by omega
      simp [m4r15, m4r16, iaddr_is, iaddr_sl, hxi, hxk, hsi2, hsk2, hyl, hback]
      refine vc_conv (σ' := [(10, .islice (frRows x)), (14, .islice (frRows x))]) (conv_drop ?_) ?_
      · simp
        exact ⟨.refl (cl_plain (frRows_plain _)), freeze_all rfl (by simp) (by simp) (frRows_row _) (frRows_plain _)⟩
      simp [m4r17]
      refine vc_call ((same11 x x (by omega) (fun f hf => by rw [hxf f hf]; omega)).frame (Cls.cons (cl_plain (frRows_plain _)) (Cls.cons (cl_plain (frRows_plain _)) .nil)) .bool _) ?_
      simp
      refine vc_call (lives8 _) ?_
      simp
      exact fin_bool rfl
    · have h1 : (64 : Int) < l.length := by omega
      simp [hf, h1, m4r2]
      refine vc_call (lives8 _) ?_
      simp
      exact fin_bool rfl
  · have hf2 : fewOk l 40 = false := by simpa using hf
    simp [hf2, m4r2]
    refine vc_call (lives8 _) ?_
    simp
    exact fin_bool rfl
end Go.Ab.Try.S
