/- Gain, of the program and of the reference. Conditions: none. -/
import Derived.Test.YtklidlkpdhjfdaaJ31FnS
import Derived.Test.YtklidlkpdhjfdaaAbAcc2
namespace Go.Ab.Try.S
open Go.Proofs

theorem mixed : Try.prog.follows .mixedOrders = true := by kernel_rfl

def satI (v : Int) : Int := max (-32768) (min v 32767)
theorem satI_rng (v : Int) : -32768 ≤ satI v ∧ satI v < 32768 := by unfold satI; omega

theorem sat22 (v : Int) : Spec Try.prog 22 [.int .i64 v] [] (.int .i16 (satI v)) [] := by
  refine spec_of_wp (C := Spec Try.prog) (fun _ _ _ _ _ h => h) mixed m22_ok (show 1 ≤ _ by decide) ?_
  unfold m22
  simp [m22r0, m22r1, envOf]
  exact fin_int (wrp_i16 (satI_rng v))
theorem sat23 (v : Int) : Spec Try.prog 23 [.int .i64 v] [] (.int .i16 (satI v)) [] := by
  refine spec_of_wp (C := Spec Try.prog) (fun _ _ _ _ _ h => h) mixed m23_ok (show 1 ≤ _ by decide) ?_
  unfold m23
  simp [m23r0, m23r1, envOf]
  refine fin_int ?_
  rw [wrp_i16 (by omega)]
  unfold satI; omega

def rowsI16 (l : List Int) : List Row := l.map fun n => [.int .i16 n]
@[simp] theorem rowsI16_len (l : List Int) : (rowsI16 l).length = l.length := by simp [rowsI16]
theorem rowsI16_row (l : List Int) : ∀ row ∈ rowsI16 l, row.length = 1 := by
  intro row h
  simp only [rowsI16, List.mem_map] at h
  obtain ⟨x, _, rfl⟩ := h
  rfl
theorem rowsI16_plain (l : List Int) : Plain (rowsI16 l) := by
  intro row h c hc
  simp only [rowsI16, List.mem_map] at h
  obtain ⟨x, _, rfl⟩ := h
  simp at hc
  subst hc
  exact ⟨rfl, .int⟩
theorem rowsI16_at {l : List Int} {j : Nat} (h : j < l.length) : (rowsI16 l)[j]? = some [.int .i16 l[j]] := by simp [rowsI16, h]

@[simp] theorem rowsI16_get {l : List Int} {j : Nat} (h : j < (rowsI16 l).length) : (rowsI16 l)[j] = [.int .i16 (l[j]'(by simpa using h))] := by simp [rowsI16]
theorem e8 : (2 : Int) ^ min 8 (bitsOf .i64) = 256 := by decide

def gain1 (g x : Int) : Int := if x * g < 0 then satI (-((128 - x * g) / 256)) else satI ((x * g + 128) / 256)
def gainV (l : List Int) (g : Int) : AV := if g < 0 ∨ 1024 < g then .tup [.islice [], .int .u8 3] else .tup [.islice (rowsI16 (l.map (gain1 g))), .int .u8 0]
theorem cl_gain (l : List Int) (g : Int) : Cl 0 (gainV l g) := by
  unfold gainV
  split
  · exact (Cls.cons (cl_plain (by intro row h; simp at h)) (Cls.cons .int .nil)).tup
  · exact (Cls.cons (cl_plain (rowsI16_plain _)) (Cls.cons .int .nil)).tup

def okF (l : List Int) : Prop := ∀ n ∈ l, -32768 ≤ n ∧ n < 32768

theorem fill_step {f : Int → Int} {l : List Int} {j : Nat} {y : Int} (h : j < l.length) (hy : f l[j] = y) :
    (rowsI16 ((l.map f).take j ++ List.replicate (l.length - j) 0)).set j [.int .i16 y] = rowsI16 ((l.take (j + 1)).map f ++ List.replicate (l.length - (j + 1)) 0) := by
  have e : l.length - j = (l.length - (j + 1)) + 1 := by omega
  rw [e, List.replicate_succ]
  simp only [rowsI16, List.map_append, List.map_cons]
  rw [List.set_append_right _ _ (by simp; omega)]
  simp only [List.length_map, List.length_take, Nat.min_eq_left (Nat.le_of_lt h), Nat.sub_self, List.set_cons_zero]
  rw [List.take_succ_eq_append_getElem h]
  simp only [List.map_append, List.map_cons, List.map_nil, hy, List.map_take, List.append_assoc, List.cons_append, List.nil_append]
theorem fill_row {f : Int → Int} {l : List Int} {j : Nat} (h : j < l.length) : (rowsI16 ((l.map f).take j ++ List.replicate (l.length - j) 0))[j]? = some [.int .i16 0] := by
  have e : l.length - j = (l.length - (j + 1)) + 1 := by omega
  rw [e, List.replicate_succ]
  simp only [rowsI16, List.map_append, List.map_cons]
  rw [List.getElem?_append_right (by simp; omega)]
  simp [Nat.min_eq_left (Nat.le_of_lt h)]

structure GInv (l : List Int) (g : Int) (m : Nat) (σ : Env) (H : Heap) (j : Nat) : Prop where
  hm : m = l.length - j
  hj : j ≤ l.length
  hσ : σ = [(1, .int .i64 g), (6, .slice 0 0 0 l.length), (19, .islice (rowsI16 l)), (20, .int .i64 (l.length : Nat)), (21, .int .i64 j)]
  hH : H = [.rows 0 1 (rowsI16 ((l.take j).map (gain1 g) ++ List.replicate (l.length - j) 0))]
def GInvE (l : List Int) (g : Int) (m : Nat) (σ : Env) (H : Heap) : Prop := ∃ j, GInv l g m σ H j

theorem gain_nums {x g : Int} (hx : -32768 ≤ x ∧ x < 32768) (hg : 0 ≤ g ∧ g ≤ 1024) : FI (wrp .i64 x) x ∧ FI (wrp .i64 (x * g)) (x * g) ∧ -33554432 ≤ x * g ∧ x * g ≤ 33554432 := by
  have h1 : x * g ≤ 32768 * g := Int.mul_le_mul_of_nonneg_right (by omega) (by omega)
  have h2 : -32768 * g ≤ x * g := Int.mul_le_mul_of_nonneg_right (by omega) (by omega)
  exact ⟨fi64 (by omega), fi64 (by omega), by omega, by omega⟩
theorem gain_step {v : Int} (h : -33554432 ≤ v ∧ v ≤ 33554432) : wrp .i64 (128 - v) = 128 - v ∧ wrp .i64 (v + 128) = v + 128 ∧ wrp .i64 (-((128 - v) / 256)) = -((128 - v) / 256) :=
  ⟨wrp_i64 (by omega), wrp_i64 (by omega), wrp_i64 (by omega)⟩

theorem gain9 (l : List Int) (g : Int) (hl : l.length ≤ 1000) (hok : okF l) : Spec Try.prog 9 [.islice (rowsI16 l), .int .i64 g] [] (gainV l g) [] := by
  refine spec_of_wp (C := Spec Try.prog) (fun _ _ _ _ _ h => h) mixed m9_ok (show 2 ≤ _ by decide) ?_
  unfold m9
  simp +contextual [m9r0, m9r1, envOf]
  unfold gainV
  refine ⟨fun hg => ?_, fun hg0 hg1 => ?_⟩
  · rw [if_pos (by omega)]
    simp [m9r2]
    exact fin_drop (CVs.cons .nil0 (CVs.cons (.refl .int) .nil)).tup
  rw [if_neg (by omega)]
  have hrm : (l.length : Int) * 2 ≤ roomB := by simp [roomB]; omega
  simp [m9r3, m9r4, hrm]
  refine vc_loop (GInvE l g) l.length ⟨0, rfl, by omega, rfl, by simp [rowsI16]⟩ ?_
  rintro m σ H ⟨j, rfl, hj, rfl, rfl⟩
  by_cases hlt : j < l.length
  · have hlt2 : (j : Int) < l.length := by omega
    have hx := hok _ (List.getElem_mem hlt)
    obtain ⟨z1, z2, z3⟩ := gain_nums hx (g := g) (by omega)
    obtain ⟨z4, z5, z6⟩ := gain_step z3
    have z7 : wrp .i64 ((j : Int) + 1) = j + 1 := wrp_i64 (by omega)
    simp [m9l12, m9r5, m9r6, m9r7, m9r8, m9r9, m9r10, m9r11, hlt, hlt2, iaddr_is, iaddr_sl, z1.o, z2.o, z4, z5, z6, z7, e8]
    have hrow := fill_row (f := gain1 g) hlt
    have step : ∀ y : Int, gain1 g l[j] = y → GInvE l g (l.length - (j + 1)) [(1, .int .i64 g), (6, .slice 0 0 0 l.length), (19, .islice (rowsI16 l)), (20, .int .i64 (l.length : Nat)), (21, .int .i64 ((j : Int) + 1))]
        [.rows 0 1 ((rowsI16 ((l.map (gain1 g)).take j ++ List.replicate (l.length - j) 0)).set j [.int .i16 y])] := by
      intro y hy
      refine ⟨j + 1, rfl, hlt, rfl, ?_⟩
      rw [fill_step (f := gain1 g) hlt hy]
    refine ⟨fun hn => ?_, fun hn => ?_⟩
    · refine vc_call ((sat22 _).frame (Cls.cons .int .nil) .int _) ?_
      simp [hlt, hlt2, iaddr_sl, z7, hrow]
      exact ⟨_, Nat.sub_succ_lt_self _ _ hlt, step _ (by rw [gain1, if_pos hn])⟩
    · refine vc_call ((sat22 _).frame (Cls.cons .int .nil) .int _) ?_
      simp [hlt, hlt2, iaddr_sl, z7, hrow]
      exact ⟨_, Nat.sub_succ_lt_self _ _ hlt, step _ (by rw [gain1, if_neg (by omega)])⟩
  · have hj2 : j = l.length := by omega
    subst hj2
    simp [m9l12, m9r5, m9r13]
    refine fin_drop (CVs.cons (freeze_all rfl (by simp) (by simp) (rowsI16_row _) (rowsI16_plain _)) (CVs.cons (.refl .int) .nil)).tup
end Go.Ab.Try.S

/- Gain of the reference; Same. Conditions: none. -/
namespace Go.Ab.Try.S
open Go.Proofs

def RInvE (l : List Int) (g : Int) (m : Nat) (σ : Env) (H : Heap) : Prop := ∃ (j : Nat) (c : AV), m = l.length - j ∧ j ≤ l.length ∧ Acc1 [] 1 (rowsI16 ((l.take j).map (gain1 g))) c H ∧
  σ = [(0, .islice (rowsI16 l)), (1, .int .i64 g), (6, c), (7, .int .i64 j)]

structure RefQ (v : Int) : Prop where
  y1 : wrp .i64 (-v) = -v
  y2 : wrp .i64 ((max v (-v)).tdiv 256) = (max v (-v)) / 256
  y3 : (max v (-v)).tmod 256 = (max v (-v)) % 256
  y4 : wrp .i64 ((max v (-v)) / 256 + 1) = (max v (-v)) / 256 + 1
  y5 : wrp .i64 (-((max v (-v)) / 256 + 1)) = -((max v (-v)) / 256 + 1)
  y6 : wrp .i64 (-((max v (-v)) / 256)) = -((max v (-v)) / 256)
theorem ref_quo {v : Int} (h : -33554432 ≤ v ∧ v ≤ 33554432) : RefQ v := by
  have h0 : 0 ≤ max v (-v) := by omega
  refine ⟨wrp_i64 (by omega), ?_, Int.tmod_eq_emod_of_nonneg h0, wrp_i64 (by omega), wrp_i64 (by omega), wrp_i64 (by omega)⟩
  rw [Int.tdiv_eq_ediv_of_nonneg h0, wrp_i64 (by omega)]

theorem gain1_ref {g x q : Int} (h : q = if x * g < 0 then -((max (x * g) (-(x * g))) / 256 + if 128 ≤ (max (x * g) (-(x * g))) % 256 then 1 else 0) else (max (x * g) (-(x * g))) / 256 + if 128 ≤ (max (x * g) (-(x * g))) % 256 then 1 else 0) : satI q = gain1 g x := by
  unfold gain1
  generalize x * g = v at h ⊢
  subst h
  split
  · congr 1
    split <;> omega
  · congr 1
    split <;> omega

theorem gain10 (l : List Int) (g : Int) (hl : l.length ≤ 1000) (hok : okF l) : Spec Try.prog 10 [.islice (rowsI16 l), .int .i64 g] [] (gainV l g) [] := by
  refine spec_of_wp (C := Spec Try.prog) (fun _ _ _ _ _ h => h) mixed m10_ok (show 2 ≤ _ by decide) ?_
  unfold m10
  simp +contextual [m10r0, m10r1, envOf]
  unfold gainV
  refine ⟨fun hg => ?_, fun hg0 hg1 => ?_⟩
  · rw [if_pos (by omega)]
    simp [m10r2]
    exact fin_drop (CVs.cons .nil0 (CVs.cons (.refl .int) .nil)).tup
  rw [if_neg (by omega)]
  simp [m10r3, m10r4]
  refine vc_loop (RInvE l g) l.length ⟨0, .nils, rfl, by omega, .nil, rfl⟩ ?_
  rintro m σ H ⟨j, c, rfl, hj, hacc, rfl⟩
  by_cases hlt : j < l.length
  · have hlt2 : (j : Int) < l.length := by omega
    have hx := hok _ (List.getElem_mem hlt)
    obtain ⟨z1, z2, z3⟩ := gain_nums hx (g := g) (by omega)
    have y := ref_quo z3
    have z7 : FI (wrp .i64 ((j : Int) + 1)) (j + 1) := fi64 (by omega)
    have hroom : ((rowsI16 ((l.take j).map (gain1 g))).length + 1) * 2 ≤ roomB := by simp [roomB]; omega
    have step : ∀ q : Int, satI q = gain1 g l[j] → W (appendAV H 1 2 c (.islice [[.int .i16 (satI q)]])) fun p => ∃ m, m < l.length - j ∧ RInvE l g m [(0, .islice (rowsI16 l)), (1, .int .i64 g), (6, p.1), (7, .int .i64 ((j : Int) + 1))] p.2 := by
      intro q hq
      refine hacc.append rfl (by simp) hroom fun c' H' h2 => ⟨_, Nat.sub_succ_lt_self _ _ hlt, j + 1, c', rfl, hlt, ?_, rfl⟩
      rw [List.take_succ_eq_append_getElem hlt]
      rw [hq] at h2
      simpa only [rowsI16, List.map_append, List.map_cons, List.map_nil] using h2
    simp [m10l15, m10r5, m10r6, m10r7, m10r8, m10r9, m10r10, m10r11, m10r12, m10r13, m10r14, hlt, hlt2, iaddr_is, z1.o, z2.o, y.y1, y.y2, y.y3, y.y4, y.y5, y.y6, z7.o]
    refine ⟨fun h1 => ⟨fun h2 => ?_, fun h2 => ?_⟩, fun h1 => ⟨fun h2 => ?_, fun h2 => ?_⟩⟩
    · refine vc_call ((sat23 _).frame (Cls.cons .int .nil) .int _) ?_
      simp [z7.o]
      exact step _ (gain1_ref (by rw [if_pos h2, if_pos h1]))
    · refine vc_call ((sat23 _).frame (Cls.cons .int .nil) .int _) ?_
      simp [z7.o]
      exact step _ (gain1_ref (by rw [if_neg (by omega), if_pos h1]))
    · refine vc_call ((sat23 _).frame (Cls.cons .int .nil) .int _) ?_
      simp [z7.o]
      exact step _ (gain1_ref (by rw [if_pos h2, if_neg (by omega), Int.add_zero]))
    · refine vc_call ((sat23 _).frame (Cls.cons .int .nil) .int _) ?_
      simp [z7.o]
      exact step _ (gain1_ref (by rw [if_neg (by omega), if_neg (by omega), Int.add_zero]))
  · have hj2 : j = l.length := by omega
    subst hj2
    simp [m10l15, m10r5, m10r16]
    rw [List.take_length] at hacc
    exact fin_drop (CVs.cons (hacc.freeze (rowsI16_row _) (rowsI16_plain _)) (CVs.cons (.refl .int) .nil)).tup
end Go.Ab.Try.S

/- Same: two lists of frames are equal. Conditions: none. -/
namespace Go.Ab.Try.S
open Go.Proofs

theorem rowsI16_inj {a b : List Int} (h : rowsI16 a = rowsI16 b) : a = b := map_enc_inj (enc := fun n : Int => [AV.int .i16 n]) (fun x y h => by simpa using h) h
def frRow (f : List Int) : Row := [.islice (rowsI16 f)]
def frRows (l : List (List Int)) : List Row := l.map frRow
@[simp] theorem frRows_len (l : List (List Int)) : (frRows l).length = l.length := by simp [frRows]
theorem frRows_row (l : List (List Int)) : ∀ row ∈ frRows l, row.length = 1 := map_row (enc := frRow) (fun _ => rfl) l
theorem frRows_plain (l : List (List Int)) : Plain (frRows l) := map_plain (enc := frRow) (fun a c hc => by
  simp only [frRow, List.mem_singleton] at hc
  subst hc
  exact ⟨rfl, cl_plain (rowsI16_plain a)⟩) l
theorem frRows_at {l : List (List Int)} {j : Nat} (h : j < l.length) : (frRows l)[j]? = some [.islice (rowsI16 l[j])] := by simp [frRows, h, frRow]
@[simp] theorem frRows_get {l : List (List Int)} {j : Nat} (h : j < (frRows l).length) : (frRows l)[j] = [.islice (rowsI16 (l[j]'(by simpa using h)))] := by simp [frRows, frRow]

def sameS (a b : List (List Int)) (i : Nat) : Env := [(0, .islice (frRows a)), (1, .islice (frRows b)), (5, .int .i64 i)]
def SInI (a b : List (List Int)) (i : Nat) (x y : List Int) (m : Nat) (σ : Env) (H : Heap) : Prop := ∃ j : Nat, m = x.length - j ∧ j ≤ x.length ∧ x.take j = y.take j ∧ H = [] ∧ σ = sameS a b i ++ [(6, .int .i64 j)]
def SOut (a b : List (List Int)) (m : Nat) (σ : Env) (H : Heap) : Prop := ∃ i : Nat, m = a.length - i ∧ i ≤ a.length ∧ a.take i = b.take i ∧ H = [] ∧ σ = sameS a b i

theorem take_ext {α : Type} {x y : List α} {j : Nat} (h1 : j < x.length) (h2 : j < y.length) (h : x.take j = y.take j) (he : x[j] = y[j]) : x.take (j + 1) = y.take (j + 1) := by
  rw [List.take_succ_eq_append_getElem h1, List.take_succ_eq_append_getElem h2, h, he]

theorem same_in {a b : List (List Int)} {i : Nat} {x y : List Int} {K : Ex → Env → Heap → Prop} (hi1 : (i : Int) < a.length) (hi2 : (i : Int) < b.length) (ha : (frRows a)[i]? = some [.islice (rowsI16 x)]) (hb : (frRows b)[i]? = some [.islice (rowsI16 y)]) (hl : x.length = y.length) (hm : x.length ≤ 1000000)
    (h1 : x = y → ∀ v, K (.exit 2) (sameS a b i ++ [(6, .int .i64 (x.length : Nat)), (35, v)]) []) (h2 : x ≠ y → K .ret [(4, .bool false)] []) :
    wpC (Spec Try.prog) [] (.loop [0, 1, 5, 6] m11l14) (sameS a b i ++ [(6, .int .i64 0)]) [] K := by
  refine vc_loop (SInI a b i x y) x.length ⟨0, rfl, by omega, rfl, rfl, rfl⟩ ?_
  rintro m σ H ⟨j, rfl, hj, ht, rfl, rfl⟩
  by_cases hlt : j < x.length
  · have hlt2 : (j : Int) < x.length := by omega
    have hlt3 : (j : Int) < y.length := by omega
    have hlt4 : j < y.length := by omega
    have z : FI (wrp .i64 ((j : Int) + 1)) (j + 1) := fi64 (by omega)
    simp [sameS, m11l14, m11r9, m11r10, m11r11, m11r12, m11r13, iaddr_is, hi1, hi2, ha, hb, hlt, hlt2, hlt3, hlt4, z.o]
    refine ⟨⟨fun h => ?_, fun h => ⟨x.length - (j + 1), Nat.sub_succ_lt_self _ _ hlt, j + 1, rfl, hlt, take_ext hlt hlt4 ht h, rfl, rfl⟩⟩, fun h => absurd hlt (Nat.not_lt.2 h)⟩
    exact h2 fun e => h (by subst e; rfl)
  · have hj2 : j = x.length := by omega
    subst hj2
    simp [sameS, m11l14, m11r9, iaddr_is, hi1, ha]
    refine h1 ?_ _
    rw [List.take_length, hl, List.take_length] at ht
    exact ht

theorem same11 (a b : List (List Int)) (ha : a.length ≤ 1000000) (hf : ∀ f ∈ a, f.length ≤ 1000000) : Spec Try.prog 11 [.islice (frRows a), .islice (frRows b)] [] (.bool (decide (a = b))) [] := by
  refine spec_of_wp (C := Spec Try.prog) (fun _ _ _ _ _ h => h) mixed m11_ok (show 2 ≤ _ by decide) ?_
  unfold m11
  simp [m11r0, m11r1, m11r2, m11r3, envOf]
  refine ⟨fun h => ?_, fun h => ?_⟩
  · exact fin_bool (by rw [eq_comm, decide_eq_false_iff_not]; exact fun e => h (by rw [e]))
  have h : a.length = b.length := by omega
  refine vc_loop (SOut a b) a.length ⟨0, rfl, by omega, rfl, rfl, rfl⟩ ?_
  rintro m σ H ⟨i, rfl, hi, ht, rfl, rfl⟩
  by_cases hlt : i < a.length
  · have hlt2 : (i : Int) < a.length := by omega
    have hlt3 : (i : Int) < b.length := by omega
    have hlt4 : i < b.length := by omega
    have z : FI (wrp .i64 ((i : Int) + 1)) (i + 1) := fi64 (by omega)
    have hal := frRows_at hlt
    have hbl := frRows_at hlt4
    have hfi := hf _ (List.getElem_mem hlt)
    simp [sameS, m11l16, m11r4, m11r5, m11r6, m11r7, m11r8, iaddr_is, hlt, hlt2, hlt3, hal, hbl]
    refine ⟨fun hne => ?_, fun heq => ?_⟩
    · exact fin_bool (by rw [eq_comm, decide_eq_false_iff_not]; exact fun e => hne (by subst e; rfl))
    · refine same_in (a := a) (b := b) (i := i) (x := a[i]) (y := b[i]) hlt2 hlt3 hal hbl (by omega) hfi (fun he v => ?_) (fun hne => ?_)
      · simp [sameS, m11r15, z.o]
        exact ⟨a.length - (i + 1), Nat.sub_succ_lt_self _ _ hlt, i + 1, rfl, hlt, take_ext hlt hlt4 ht he, rfl, rfl⟩
      · simp
        exact fin_bool (by rw [eq_comm, decide_eq_false_iff_not]; exact fun e => hne (by subst e; rfl))
  · have hi2 : i = a.length := by omega
    subst hi2
    simp [sameS, m11l16, m11r4, m11r17]
    rw [List.take_length, h, List.take_length] at ht
    exact fin_bool (by simp [ht])
end Go.Ab.Try.S

/- Sums and mixes of frames. Conditions: none. -/
namespace Go.Ab.Try.S
open Go.Proofs

def rI64 (l : List Int) : List Row := l.map fun n => [.int .i64 n]
@[simp] theorem rI64_len (l : List Int) : (rI64 l).length = l.length := by simp [rI64]
theorem rI64_row (l : List Int) : ∀ row ∈ rI64 l, row.length = 1 := map_row (enc := fun n : Int => [AV.int .i64 n]) (fun _ => rfl) l
theorem rI64_plain (l : List Int) : Plain (rI64 l) := map_plain (enc := fun n : Int => [AV.int .i64 n]) (fun a c hc => by simp only [List.mem_singleton] at hc; subst hc; exact ⟨rfl, .int⟩) l
@[simp] theorem rI64_get {l : List Int} {j : Nat} (h : j < (rI64 l).length) : (rI64 l)[j] = [.int .i64 (l[j]'(by simpa using h))] := by simp [rI64]
theorem rI64_range {F : Nat → Int} {n j : Nat} (h : j < n) : (rI64 ((List.range n).map F))[j]? = some [.int .i64 (F j)] := by simp [rI64, h]
theorem rI64_set {F G : Nat → Int} {n j : Nat} {y : Int} (h : ∀ i, i ≠ j → F i = G i) (hy : G j = y) : (rI64 ((List.range n).map F)).set j [.int .i64 y] = rI64 ((List.range n).map G) := by
  refine List.ext_getElem? fun i => ?_
  by_cases hi : i = j
  · subst hi
    by_cases hn : i < n
    · rw [List.getElem?_set_self (by simpa using hn)]
      simp [rI64, hn, hy]
    · rw [List.getElem?_eq_none (by simp; omega), List.getElem?_eq_none (by simp; omega)]
  · rw [List.getElem?_set_ne (Ne.symm hi)]
    simp only [rI64, List.getElem?_map]
    by_cases hn : i < n
    · simp [hn, h i hi]
    · rw [List.getElem?_eq_none (by simp; omega)]; rfl

def atI (f : List Int) (i : Nat) : Int := f.getD i 0
def sumAt : List (List Int) → Nat → Int
  | [], _ => 0
  | f :: t, i => atI f i + sumAt t i
theorem sumAt_app : ∀ (l : List (List Int)) (f : List Int) (i : Nat), sumAt (l ++ [f]) i = sumAt l i + atI f i
  | [], f, i => by simp [sumAt]
  | x :: t, f, i => by simp only [List.cons_append, sumAt, sumAt_app t]; omega
theorem atI_rng {f : List Int} (h : okF f) (i : Nat) : -32768 ≤ atI f i ∧ atI f i < 32768 := by
  unfold atI
  by_cases hi : i < f.length
  · rw [List.getD_eq_getElem?_getD, List.getElem?_eq_getElem hi]; exact h _ (List.getElem_mem hi)
  · rw [List.getD_eq_getElem?_getD, List.getElem?_eq_none (by omega)]; decide
theorem atI_get {f : List Int} {i : Nat} (h : i < f.length) : atI f i = f[i] := by
  unfold atI; rw [List.getD_eq_getElem?_getD, List.getElem?_eq_getElem h]; rfl
theorem atI_out {f : List Int} {i : Nat} (h : f.length ≤ i) : atI f i = 0 := by
  unfold atI; rw [List.getD_eq_getElem?_getD, List.getElem?_eq_none h]; rfl
theorem sumAt_rng : ∀ {l : List (List Int)}, (∀ f ∈ l, okF f) → ∀ i, -32768 * (l.length : Int) ≤ sumAt l i ∧ sumAt l i ≤ 32768 * (l.length : Int)
  | [], _, i => by simp [sumAt]
  | x :: t, h, i => by
    have h1 := atI_rng (h x (by simp)) i
    have h2 := sumAt_rng (l := t) (fun f hf => h f (by simp [hf])) i
    simp only [sumAt, List.length_cons]
    omega

def totF (l : List (List Int)) (n : Nat) : List Int := (List.range n).map (sumAt l)
@[simp] theorem totF_len (l : List (List Int)) (n : Nat) : (totF l n).length = n := by simp [totF]

theorem check24 (l : List (List Int)) (n : Nat) (hn : n ≤ 8000) (hl : l.length ≤ 64) : Spec Try.prog 24 [.islice (frRows l), .int .i64 n] [] (.int .u8 0) [] := by
  refine spec_of_wp (C := Spec Try.prog) (fun _ _ _ _ _ h => h) mixed m24_ok (show 2 ≤ _ by decide) ?_
  unfold m24
  have h1 : ¬ (n : Int) < 0 := by omega
  have h2 : ¬ (8000 : Int) < n := by omega
  have h3 : ¬ (64 : Int) < l.length := by omega
  simp [m24r0, m24r1, m24r3, m24r5, envOf, h1, h2, h3]
  exact fin_int rfl

/-! ### total -/
def totS (l : List (List Int)) (n k : Nat) : Env := [(1, .int .i64 n), (5, .slice 0 0 0 n), (11, .islice (frRows l)), (12, .int .i64 (l.length : Nat)), (13, .int .i64 k)]
def totG (l : List (List Int)) (f : List Int) (k j i : Nat) : Int := sumAt (l.take k) i + if i < j then atI f i else 0
def TIn (l : List (List Int)) (n k : Nat) (f : List Int) (m : Nat) (σ : Env) (H : Heap) : Prop := ∃ j : Nat, m = min n f.length - j ∧ j ≤ min n f.length ∧ H = [.rows 0 1 (rI64 ((List.range n).map (totG l f k j)))] ∧
  σ = [(1, .int .i64 n), (5, .slice 0 0 0 n), (7, .islice (rowsI16 f)), (11, .islice (frRows l)), (12, .int .i64 (l.length : Nat)), (13, .int .i64 k), (20, .int .i64 (min n f.length : Nat)), (21, .int .i64 j)]
def TOut (l : List (List Int)) (n : Nat) (m : Nat) (σ : Env) (H : Heap) : Prop := ∃ k : Nat, m = l.length - k ∧ k ≤ l.length ∧ H = [.rows 0 1 (rI64 (totF (l.take k) n))] ∧ σ = totS l n k

theorem tot_in {l : List (List Int)} {n k : Nat} {f : List Int} {K : Ex → Env → Heap → Prop} (hn : n ≤ 8000) (hk : k < l.length) (hl : l.length ≤ 70) (hok : ∀ f ∈ l, okF f) (hf : f = l[k])
    (h : ∀ v, K (.exit 2) [(1, .int .i64 n), (5, .slice 0 0 0 n), (7, .islice (rowsI16 f)), (11, .islice (frRows l)), (12, .int .i64 (l.length : Nat)), (13, .int .i64 k), (20, .int .i64 (min n f.length : Nat)), (21, .int .i64 (min n f.length : Nat)), (22, v)] [.rows 0 1 (rI64 (totF (l.take (k + 1)) n))]) :
    wpC (Spec Try.prog) [] (.loop [1, 5, 7, 11, 12, 13, 20, 21] m25l11) [(1, .int .i64 n), (5, .slice 0 0 0 n), (7, .islice (rowsI16 f)), (11, .islice (frRows l)), (12, .int .i64 (l.length : Nat)), (13, .int .i64 k), (20, .int .i64 (min n f.length : Nat)), (21, .int .i64 0)] [.rows 0 1 (rI64 (totF (l.take k) n))] K := by
  refine vc_loop (TIn l n k f) (min n f.length) ⟨0, rfl, by omega, ?_, rfl⟩ ?_
  · have : totG l f k 0 = sumAt (l.take k) := by funext i; simp [totG]
    rw [this]; rfl
  rintro m σ H ⟨j, rfl, hj, rfl, rfl⟩
  by_cases hlt : j < min n f.length
  · have hlt2 : (j : Int) < (min n f.length : Nat) := by omega
    have h1 : (j : Int) < n := by omega
    have h2 : (j : Int) < f.length := by omega
    have h1' : j < n := by omega
    have h2' : j < f.length := by omega
    have hs := sumAt_rng (l := l.take k) (fun f hf => hok f (List.mem_of_mem_take hf)) j
    have hlk : (l.take k).length ≤ 70 := by rw [List.length_take]; omega
    have ha := atI_rng (hok f (by rw [hf]; exact List.getElem_mem hk)) j
    rw [atI_get h2'] at ha
    have z : FI (wrp .i64 ((j : Int) + 1)) (j + 1) := fi64 (by omega)
    have z1 : FI (wrp .i64 f[j]) f[j] := fi64 (by omega)
    have eg : totG l f k j j = sumAt (l.take k) j := by simp [totG]
    have z2 : FI (wrp .i64 (sumAt (l.take k) j + f[j])) (sumAt (l.take k) j + f[j]) := fi64 (by omega)
    simp [m25l11, m25r6, m25r7, m25r8, m25r9, m25r10, iaddr_is, iaddr_sl, hlt, hlt2, h1, h2, h1', h2', eg, z.o, z1.o, z2.o]
    refine ⟨min n f.length - (j + 1), Nat.sub_succ_lt_self _ _ hlt, j + 1, rfl, hlt, ?_, rfl⟩
    have e1 : ∀ i, i ≠ j → totG l f k j i = totG l f k (j + 1) i := by
      intro i hi
      simp only [totG]
      congr 1
      by_cases hij : i < j
      · rw [if_pos hij, if_pos (by omega)]
      · rw [if_neg hij, if_neg (by omega)]
    have e2 : totG l f k (j + 1) j = sumAt (l.take k) j + f[j] := by
      simp only [totG]
      rw [if_pos (by omega), atI_get h2']
    rw [rI64_set e1 e2]
  · have hj2 : j = min n f.length := by omega
    subst hj2
    have e : totF (l.take (k + 1)) n = (List.range n).map (totG l f k (min n f.length)) := by
      unfold totF
      refine List.map_congr_left fun i hi => ?_
      have hin : i < n := by simpa using hi
      rw [List.take_succ_eq_append_getElem hk, sumAt_app, ← hf, totG]
      congr 1
      by_cases h2 : i < min n f.length
      · rw [if_pos h2]
      · rw [if_neg h2, atI_out (by omega)]
    simp [m25l11, m25r6]
    rw [← e]
    exact h _

theorem total25 (l : List (List Int)) (n : Nat) (hn : n ≤ 8000) (hl : l.length ≤ 70) (hok : ∀ f ∈ l, okF f) : Spec Try.prog 25 [.islice (frRows l), .int .i64 n] [] (.islice (rI64 (totF l n))) [] := by
  refine spec_of_wp (C := Spec Try.prog) (fun _ _ _ _ _ h => h) mixed m25_ok (show 2 ≤ _ by decide) ?_
  unfold m25
  have hrm : (n : Int) * 8 ≤ roomB := by simp [roomB]; omega
  simp [m25r0, m25r1, m25r2, envOf, hrm]
  refine vc_loop (TOut l n) l.length ⟨0, rfl, by omega, ?_, rfl⟩ ?_
  · have : rI64 (totF (l.take 0) n) = List.replicate n [.int .i64 0] := by
      simp [totF, rI64, sumAt, List.map_const']
    rw [this]
  rintro m σ H ⟨k, rfl, hk, rfl, rfl⟩
  by_cases hlt : k < l.length
  · have hlt2 : (k : Int) < l.length := by omega
    have z : FI (wrp .i64 ((k : Int) + 1)) (k + 1) := fi64 (by omega)
    have emin : min (n : Int) (l[k].length : Nat) = (min n l[k].length : Nat) := by omega
    simp [totS, m25l13, m25r3, m25r4, m25r5, iaddr_is, hlt, hlt2, emin]
    refine tot_in (f := l[k]) hn hlt hl hok rfl fun v => ?_
    simp [m25r12, z.o]
    exact ⟨l.length - (k + 1), Nat.sub_succ_lt_self _ _ hlt, k + 1, rfl, hlt, rfl, rfl⟩
  · have hk2 : k = l.length := by omega
    subst hk2
    simp [totS, m25l13, m25r3, m25r14]
    exact fin_made rfl (by simp) (rI64_row _) (rI64_plain _)
end Go.Ab.Try.S

/- saturated, Mix. Conditions: none. -/
namespace Go.Ab.Try.S
open Go.Proofs

def SatE (s : List Int) (m : Nat) (σ : Env) (H : Heap) : Prop := ∃ j : Nat, m = s.length - j ∧ j ≤ s.length ∧ σ = [(3, .slice 0 0 0 s.length), (9, .islice (rI64 s)), (10, .int .i64 (s.length : Nat)), (11, .int .i64 j)] ∧
    H = [.rows 0 1 (rowsI16 ((s.take j).map satI ++ List.replicate (s.length - j) 0))]

theorem satur26 (s : List Int) (hs : s.length ≤ 8000) : Spec Try.prog 26 [.islice (rI64 s)] [] (.islice (rowsI16 (s.map satI))) [] := by
  refine spec_of_wp (C := Spec Try.prog) (fun _ _ _ _ _ h => h) mixed m26_ok (show 1 ≤ _ by decide) ?_
  unfold m26
  have hrm : (s.length : Int) * 2 ≤ roomB := by simp [roomB]; omega
  simp [m26r0, m26r1, m26r2, envOf, hrm]
  refine vc_loop (SatE s) s.length ⟨0, rfl, by omega, rfl, by simp [rowsI16]⟩ ?_
  rintro m σ H ⟨j, rfl, hj, rfl, rfl⟩
  by_cases hlt : j < s.length
  · have hlt2 : (j : Int) < s.length := by omega
    have z : FI (wrp .i64 ((j : Int) + 1)) (j + 1) := fi64 (by omega)
    have hrow := fill_row (f := satI) hlt
    have hset := fill_step (f := satI) hlt rfl
    rw [List.map_take] at hset ⊢
    simp [m26l7, m26r3, m26r4, m26r5, m26r6, iaddr_is, hlt, hlt2]
    refine vc_call ((sat22 _).frame (Cls.cons .int .nil) .int _) ?_
    simp [iaddr_sl, hrow, hlt2, z.o, hset]
    exact ⟨s.length - (j + 1), Nat.sub_succ_lt_self _ _ hlt, j + 1, rfl, hlt, rfl, by rw [List.map_take]⟩
  · have hj2 : j = s.length := by omega
    subst hj2
    simp [m26l7, m26r3, m26r8]
    exact fin_made rfl (by simp) (rowsI16_row _) (rowsI16_plain _)

def mix1 (l : List (List Int)) (n : Nat) (f : List Int) : List Int := (List.range n).map fun i => satI (sumAt l i - atI f i)
def mixF (l : List (List Int)) (n : Nat) : List (List Int) := l.map (mix1 l n)
def mixG (l : List (List Int)) (f : List Int) (j i : Nat) : Int := sumAt l i - if i < j then atI f i else 0
/-- What is left of the outcome, and what is still nil. -/
def outR (l : List (List Int)) (n k : Nat) : List Row := ((l.take k).map fun f => frRow (mix1 l n f)) ++ List.replicate (l.length - k) [.nils]
def mixS (l : List (List Int)) (n k : Nat) (f : List Int) (j : Int) : Env := [(1, .int .i64 n), (7, .islice (rI64 (totF l n))), (8, .slice 0 0 0 l.length), (9, .int .i64 k), (10, .islice (rowsI16 f)), (11, .slice 1 0 0 n), (25, .islice (frRows l)), (26, .int .i64 (l.length : Nat)), (27, .int .i64 k), (40, .int .i64 (min n f.length : Nat)), (41, .int .i64 j)]
def MIn (l : List (List Int)) (n k : Nat) (f : List Int) (R : List Row) (m : Nat) (σ : Env) (H : Heap) : Prop := ∃ j : Nat, m = min n f.length - j ∧ j ≤ min n f.length ∧ H = [.rows 0 1 R, .rows 0 1 (rI64 ((List.range n).map (mixG l f j)))] ∧ σ = mixS l n k f j

theorem mix_in {l : List (List Int)} {n k : Nat} {f : List Int} {R : List Row} {K : Ex → Env → Heap → Prop} (hn : n ≤ 8000) (hl : l.length ≤ 64) (hok : ∀ f ∈ l, okF f) (hf : f ∈ l)
    (h : ∀ v, K (.exit 2) (mixS l n k f (min n f.length : Nat) ++ [(42, v)]) [.rows 0 1 R, .rows 0 1 (rI64 ((List.range n).map fun i => sumAt l i - atI f i))]) :
    wpC (Spec Try.prog) [] (.loop [1, 7, 8, 9, 10, 11, 25, 26, 27, 40, 41] m13l17) (mixS l n k f 0) [.rows 0 1 R, .rows 0 1 (rI64 (totF l n))] K := by
  refine vc_loop (MIn l n k f R) (min n f.length) ⟨0, rfl, by omega, ?_, rfl⟩ ?_
  · have : mixG l f 0 = sumAt l := by funext i; simp [mixG]
    rw [this]; rfl
  rintro m σ H ⟨j, rfl, hj, rfl, rfl⟩
  by_cases hlt : j < min n f.length
  · have hlt2 : (j : Int) < (min n f.length : Nat) := by omega
    have h1 : (j : Int) < n := by omega
    have h2 : (j : Int) < f.length := by omega
    have h1' : j < n := by omega
    have h2' : j < f.length := by omega
    have hs := sumAt_rng (l := l) hok j
    have ha := atI_rng (hok f hf) j
    rw [atI_get h2'] at ha
    have z : FI (wrp .i64 ((j : Int) + 1)) (j + 1) := fi64 (by omega)
    have z1 : FI (wrp .i64 f[j]) f[j] := fi64 (by omega)
    have eg : mixG l f j j = sumAt l j := by simp [mixG]
    have z2 : FI (wrp .i64 (sumAt l j - f[j])) (sumAt l j - f[j]) := fi64 (by omega)
    have e1 : ∀ i, i ≠ j → mixG l f j i = mixG l f (j + 1) i := by
      intro i hi
      simp only [mixG]
      congr 1
      by_cases hij : i < j
      · rw [if_pos hij, if_pos (by omega)]
      · rw [if_neg hij, if_neg (by omega)]
    have e2 : mixG l f (j + 1) j = sumAt l j - f[j] := by
      simp only [mixG]
      rw [if_pos (by omega), atI_get h2']
    simp [mixS, m13l17, m13r12, m13r13, m13r14, m13r15, m13r16, iaddr_is, iaddr_sl, hlt, hlt2, h1, h2, h1', h2', eg, z.o, z1.o, z2.o]
    refine ⟨min n f.length - (j + 1), Nat.sub_succ_lt_self _ _ hlt, j + 1, rfl, hlt, ?_, rfl⟩
    rw [rI64_set e1 e2]
  · have hj2 : j = min n f.length := by omega
    subst hj2
    have e : ((List.range n).map fun i => sumAt l i - atI f i) = (List.range n).map (mixG l f (min n f.length)) := by
      refine List.map_congr_left fun i hi => ?_
      have hin : i < n := by simpa using hi
      simp only [mixG]
      congr 1
      by_cases h2 : i < min n f.length
      · rw [if_pos h2]
      · rw [if_neg h2, atI_out (by omega)]
    simp [mixS, m13l17, m13r12]
    rw [← e]
    exact h _

def MOut (l : List (List Int)) (n : Nat) (m : Nat) (σ : Env) (H : Heap) : Prop := ∃ k : Nat, m = l.length - k ∧ k ≤ l.length ∧ H = [.rows 0 1 (outR l n k)] ∧
  σ = [(1, .int .i64 n), (7, .islice (rI64 (totF l n))), (8, .slice 0 0 0 l.length), (25, .islice (frRows l)), (26, .int .i64 (l.length : Nat)), (27, .int .i64 k)]
theorem out_done {l : List (List Int)} {n k : Nat} (h : k ≤ l.length) : ((l.take k).map fun f => frRow (mix1 l n f)).length = k := by rw [List.length_map, List.length_take]; omega
theorem outR_get {l : List (List Int)} {n k : Nat} (h : k < l.length) : (outR l n k)[k]? = some [.nils] := by
  unfold outR
  rw [show l.length - k = (l.length - (k + 1)) + 1 by omega]
  exact rows_get (out_done (Nat.le_of_lt h))
theorem outR_set {l : List (List Int)} {n k : Nat} (h : k < l.length) : (outR l n k).set k [.islice (rowsI16 (mix1 l n l[k]))] = outR l n (k + 1) := by
  unfold outR
  rw [show l.length - k = (l.length - (k + 1)) + 1 by omega, rows_set (out_done (Nat.le_of_lt h)), List.take_succ_eq_append_getElem h, List.map_append]
  rfl
theorem outR_all (l : List (List Int)) (n : Nat) : outR l n l.length = frRows (mixF l n) := by
  simp [outR, frRows, mixF]
theorem outR_ok {l : List (List Int)} {n k : Nat} : (∀ row ∈ outR l n k, row.length = 1) ∧ Plain (outR l n k) := by
  constructor
  · intro row h
    rcases List.mem_append.1 h with h | h
    · obtain ⟨f, _, rfl⟩ := List.mem_map.1 h; rfl
    · rw [(List.mem_replicate.1 h).2]; rfl
  · intro row h
    rcases List.mem_append.1 h with h | h
    · exact map_plain (enc := fun f => frRow (mix1 l n f)) (fun a c hc => by simp only [frRow, List.mem_singleton] at hc; subst hc; exact ⟨rfl, cl_plain (rowsI16_plain _)⟩) _ row h
    · rw [(List.mem_replicate.1 h).2]
      intro c hc
      simp only [List.mem_singleton] at hc
      subst hc
      exact ⟨rfl, .nils⟩

theorem mix13 (l : List (List Int)) (n : Nat) (hn : n ≤ 8000) (hl : l.length ≤ 64) (hok : ∀ f ∈ l, okF f) : Spec Try.prog 13 [.islice (frRows l), .int .i64 n] [] (.tup [.islice (frRows (mixF l n)), .int .u8 0]) [] := by
  refine spec_of_wp (C := Spec Try.prog) (fun _ _ _ _ _ h => h) mixed m13_ok (show 2 ≤ _ by decide) ?_
  unfold m13
  have hrm : (l.length : Int) * 24 ≤ roomB := by simp [roomB]; omega
  have hrm2 : (n : Int) * 8 ≤ roomB := by simp [roomB]; omega
  simp [m13r0, m13r1, envOf]
  refine vc_call ((check24 l n hn hl).frame (Cls.cons (cl_plain (frRows_plain l)) (Cls.cons .int .nil)) .int _) ?_
  simp [m13r2, m13r4]
  refine vc_call ((total25 l n hn (by omega) hok).frame (Cls.cons (cl_plain (frRows_plain l)) (Cls.cons .int .nil)) (cl_plain (rI64_plain _)) _) ?_
  simp [m13r5, m13r6, hrm]
  refine vc_loop (MOut l n) l.length ⟨0, rfl, by omega, by simp [outR], rfl⟩ ?_
  rintro m σ H ⟨k, rfl, hk, rfl, rfl⟩
  by_cases hlt : k < l.length
  · have hlt2 : (k : Int) < l.length := by omega
    have z : FI (wrp .i64 ((k : Int) + 1)) (k + 1) := fi64 (by omega)
    have emin : min (n : Int) (l[k].length : Nat) = (min n l[k].length : Nat) := by omega
    simp [m13l20, m13r7, m13r8, m13r9, iaddr_is, hlt, hlt2, hrm2]
    simp [m13r10]
    refine W_of (copy_all (rs := List.replicate n [.int .i64 0]) (news := rI64 (totF l n)) rfl rfl (rI64_row _) (by simp) (by simp)) ?_
    simp [m13r11, emin]
    refine mix_in (k := k) (f := l[k]) (R := outR l n k) hn hl hok (List.getElem_mem hlt) fun v => ?_
    simp [mixS]
    refine vc_conv (σ' := [(1, .int .i64 n), (7, .islice (rI64 (totF l n))), (8, .slice 0 0 0 l.length), (9, .int .i64 k), (11, .islice (rI64 ((List.range n).map fun i => sumAt l i - atI l[k] i))), (25, .islice (frRows l)), (26, .int .i64 (l.length : Nat)), (27, .int .i64 k)]) (conv_pick1 (k := 0) (g := 0) (s := 1) (rs := outR l n k) rfl outR_ok.1 outR_ok.2 ?_) ?_
    · simp
      exact ⟨.refl .int, .refl (cl_plain (rI64_plain _)), cv_slice rfl, .refl .int, freeze_all rfl (by simp) (by simp) (rI64_row _) (rI64_plain _), .refl (cl_plain (frRows_plain _)), .refl .int, .refl .int⟩
    simp [m13r18]
    refine vc_call ((satur26 ((List.range n).map fun i => sumAt l i - atI l[k] i) (by simp; omega)).frame (Cls.cons (cl_plain (rI64_plain _)) .nil) (cl_plain (rowsI16_plain _)) _) ?_
    have hset := outR_set (n := n) hlt
    rw [mix1] at hset
    simp [iaddr_sl, hlt2, outR_get hlt, m13r19, z.o]
    exact ⟨l.length - (k + 1), Nat.sub_succ_lt_self _ _ hlt, k + 1, rfl, hlt, by rw [← hset]; rfl, rfl⟩
  · have hk2 : k = l.length := by omega
    subst hk2
    simp [m13l20, m13r7, m13r21]
    rw [outR_all]
    exact fin_drop (CVs.cons (freeze_all rfl (by simp) (by simp [mixF]) (frRows_row _) (frRows_plain _)) (CVs.cons (.refl .int) .nil)).tup
end Go.Ab.Try.S
