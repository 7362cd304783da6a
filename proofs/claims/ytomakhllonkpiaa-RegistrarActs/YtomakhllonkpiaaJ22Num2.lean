/- Registrations as plain data; the small functions. Conditions: none. -/
import Derived.Test.YtomakhllonkpiaaJ22Fn
import Derived.Test.YtomakhllonkpiaaAbTab
import Derived.Test.YtomakhllonkpiaaAbVcC
import Derived.Test.YtomakhllonkpiaaAbKeys
namespace Go.Ab.Try.S
open Go.Proofs

theorem mixed : Try.prog.follows .mixedOrders = true := by kernel_rfl
structure Cf where
  least : Int
  usual : Int
  most : Int
  room : Int
deriving DecidableEq
structure Ct where
  uri : List UInt8
  q : Int
  exp : Int
deriving DecidableEq
structure Rg where
  aor : List UInt8
  cid : List UInt8
  cseq : Int
  star : Bool
  cs : List Ct
  exp : Int
  inst : List UInt8
  flow : Int
  path : List (List UInt8)
deriving DecidableEq
def Cf.row (c : Cf) : Row := [.int .i64 c.least, .int .i64 c.usual, .int .i64 c.most, .int .i64 c.room]
def Ct.row (c : Ct) : Row := [.str c.uri, .int .i64 c.q, .int .i64 c.exp]
def ctRows (l : List Ct) : List Row := l.map Ct.row
def ptRow (s : List UInt8) : Row := [.str s]
def ptRows (l : List (List UInt8)) : List Row := l.map ptRow
def Rg.row (r : Rg) : Row := [.str r.aor, .str r.cid, .int .i64 r.cseq, .bool r.star, .islice (ctRows r.cs), .int .i64 r.exp, .str r.inst, .int .i64 r.flow, .islice (ptRows r.path)]
@[simp] theorem cf_len (b : Cf) : b.row.length = 4 := rfl
@[simp] theorem ct_len (b : Ct) : b.row.length = 3 := rfl
@[simp] theorem pt_len (b : List UInt8) : (ptRow b).length = 1 := rfl
@[simp] theorem rg_len (a : Rg) : a.row.length = 9 := rfl
@[simp] theorem cf_take (b : Cf) : List.take 4 b.row = b.row := rfl
@[simp] theorem ct_take (b : Ct) : List.take 3 b.row = b.row := rfl
@[simp] theorem rg_take (a : Rg) : List.take 9 a.row = a.row := rfl
@[simp] theorem ok_cf (b : Cf) : okRow b.row = true := rfl
@[simp] theorem ok_ct (b : Ct) : okRow b.row = true := rfl
@[simp] theorem ok_rg (b : Rg) : okRow b.row = true := rfl
@[simp] theorem ctRows_len (l : List Ct) : (ctRows l).length = l.length := by simp [ctRows]
@[simp] theorem ptRows_len (l : List (List UInt8)) : (ptRows l).length = l.length := by simp [ptRows]
@[simp] theorem ctRows_get {l : List Ct} {j : Nat} (h : j < (ctRows l).length) : (ctRows l)[j] = (l[j]'(by simpa using h)).row := by simp [ctRows]
@[simp] theorem ptRows_get {l : List (List UInt8)} {j : Nat} (h : j < (ptRows l).length) : (ptRows l)[j] = [.str (l[j]'(by simpa using h))] := by simp [ptRows, ptRow]
theorem ct_cells (b : Ct) : ∀ c ∈ b.row, c.sc = true ∧ Cl 0 c := by
  intro c hc
  simp only [Ct.row, List.mem_cons, List.not_mem_nil, or_false] at hc
  rcases hc with rfl | rfl | rfl
  · exact ⟨rfl, .str⟩
  · exact ⟨rfl, .int⟩
  · exact ⟨rfl, .int⟩
theorem pt_cells (b : List UInt8) : ∀ c ∈ ptRow b, c.sc = true ∧ Cl 0 c := by
  intro c hc
  simp only [ptRow, List.mem_singleton] at hc
  subst hc; exact ⟨rfl, .str⟩
theorem ctRows_row (l : List Ct) : ∀ row ∈ ctRows l, row.length = 3 := map_row ct_len l
theorem ctRows_plain (l : List Ct) : Plain (ctRows l) := map_plain ct_cells l
theorem ptRows_row (l : List (List UInt8)) : ∀ row ∈ ptRows l, row.length = 1 := map_row pt_len l
theorem ptRows_plain (l : List (List UInt8)) : Plain (ptRows l) := map_plain pt_cells l
theorem cl_cf (c : Cf) : Cl 0 (.agg c.row) := (Cls.cons .int (Cls.cons .int (Cls.cons .int (Cls.cons .int .nil)))).agg
theorem cl_ct (c : Ct) : Cl 0 (.agg c.row) := (Cls.cons .str (Cls.cons .int (Cls.cons .int .nil))).agg
theorem cl_rg (r : Rg) : Cl 0 (.agg r.row) := (Cls.cons .str (Cls.cons .str (Cls.cons .int (Cls.cons .bool (Cls.cons (cl_plain (ctRows_plain _)) (Cls.cons .int (Cls.cons .str (Cls.cons .int (Cls.cons (cl_plain (ptRows_plain _)) .nil))))))))).agg
theorem ct_inj {a b : Ct} (h : a.row = b.row) : a = b := by
  cases a; cases b
  simp [Ct.row] at h
  simp [h]
theorem ctRows_inj {a b : List Ct} (h : ctRows a = ctRows b) : a = b := map_enc_inj (fun _ _ => ct_inj) h
theorem ptRows_inj {a b : List (List UInt8)} (h : ptRows a = ptRows b) : a = b := map_enc_inj (fun _ _ h => by simpa [ptRow] using h) h
theorem rg_inj {a b : Rg} (h : a.row = b.row) : a = b := by
  cases a; cases b
  simp [Rg.row] at h
  obtain ⟨h1, h2, h3, h4, h5, h6, h7, h8, h9⟩ := h
  have e5 := ctRows_inj h5
  have e9 := ptRows_inj h9
  simp [h1, h2, h3, h4, e5, h6, h7, h8, e9]

def wi (n a b : Int) : Bool := decide (a ≤ n) && decide (n ≤ b)
theorem within28 (n a b : Int) : Spec Try.prog 28 [.int .i64 n, .int .i64 a, .int .i64 b] [] (.bool (wi n a b)) [] := by
  refine spec_of_wp (C := Spec Try.prog) (fun _ _ _ _ _ h => h) mixed m28_ok (show 3 ≤ _ by decide) ?_
  unfold m28
  simp +contextual [m28r0, m28r1, envOf]
  exact fin_bool rfl
theorem within29 (n a b : Int) : Spec Try.prog 29 [.int .i64 n, .int .i64 a, .int .i64 b] [] (.bool (wi n a b)) [] := by
  refine spec_of_wp (C := Spec Try.prog) (fun _ _ _ _ _ h => h) mixed m29_ok (show 3 ≤ _ by decide) ?_
  unfold m29
  simp +contextual [m29r0, m29r1, envOf]
  exact fin_bool rfl
def e28 : Entry Try.prog where
  f := 28
  α := Int × Int × Int
  enc p := [.int .i64 p.1, .int .i64 p.2.1, .int .i64 p.2.2]
  res p := .bool (wi p.1 p.2.1 p.2.2)
  inj a b h := by
    simp at h
    rw [h.1, h.2.1, h.2.2]
  ok p H := (within28 p.1 p.2.1 p.2.2).frame (Cls.cons .int (Cls.cons .int (Cls.cons .int .nil))) .bool H
def e29 : Entry Try.prog where
  f := 29
  α := Int × Int × Int
  enc p := [.int .i64 p.1, .int .i64 p.2.1, .int .i64 p.2.2]
  res p := .bool (wi p.1 p.2.1 p.2.2)
  inj a b h := by
    simp at h
    rw [h.1, h.2.1, h.2.2]
  ok p H := (within29 p.1 p.2.1 p.2.2).frame (Cls.cons .int (Cls.cons .int (Cls.cons .int .nil))) .bool H

/-! ### what is well-formed -/
def cfB (c : Cf) : Bool := decide (1 ≤ c.least) && decide (c.least ≤ c.usual) && decide (c.usual ≤ c.most) && decide (c.most ≤ 10000000) && wi c.room 1 100
def fA (r : Rg) : Bool := wi r.aor.length 1 255 && wi r.cid.length 1 255 && wi r.cseq 0 2147483647 && wi r.exp (-1) 2147483647
def fB (r : Rg) : Bool := !decide (20 < r.cs.length) && !(r.star && (!decide (r.cs.length = 0) || !decide (r.exp = 0)))
def fC (r : Rg) : Bool := !decide (255 < r.inst.length) && wi r.flow 0 2147483647 && !(!decide (r.flow = 0) && (decide (r.inst.length = 0) || decide (1 < r.cs.length)))
def pB (s : List UInt8) : Bool := wi s.length 1 1000
def fD (r : Rg) : Bool := !decide (10 < r.path.length) && r.path.all pB
def cB (c : Ct) : Bool := wi c.uri.length 1 1000 && wi c.q 0 1000 && wi c.exp (-1) 2147483647
def freshC (done : List Ct) (c : Ct) : Bool := done.all fun a => !decide (a.uri = c.uri)
def goodC : List Ct → List Ct → Bool
  | _, [] => true
  | done, c :: t => cB c && (freshC done c && goodC (done ++ [c]) t)
def formedB (r : Rg) : Bool := fA r && fB r && fC r && fD r && goodC [] r.cs
theorem freshC_mem (l : List Ct) (r : Ct) : freshC l r = !decide (r.uri ∈ l.map Ct.uri) := by
  rw [Bool.eq_iff_iff]
  simp [freshC]
theorem goodC_step {l : List Ct} {k : Nat} (h : k < l.length) : goodC (l.take k) (l.drop k) = (cB l[k] && (freshC (l.take k) l[k] && goodC (l.take (k + 1)) (l.drop (k + 1)))) := by
  rw [List.drop_eq_getElem_cons h, goodC, ← List.take_succ_eq_append_getElem h]
theorem goodC_end {l : List Ct} {k : Nat} (h : k = l.length) : goodC (l.take k) (l.drop k) = true := by
  rw [List.drop_eq_nil_of_le (by omega)]; rfl
theorem take_all {α : Type} {p : α → Bool} {l : List α} {k : Nat} (h : k < l.length) (ha : (l.take k).all p = true) (hp : p l[k] = true) : (l.take (k + 1)).all p = true := by
  rw [List.take_succ_eq_append_getElem h, List.all_append, ha]
  simp [hp]
theorem not_all {α : Type} {p : α → Bool} {l : List α} {k : Nat} (h : k < l.length) (hp : p l[k] = false) : l.all p = false := by
  rw [List.all_eq_false]
  exact ⟨_, List.getElem_mem h, by simp [hp]⟩

theorem valid9 (c : Cf) : Spec Try.prog 9 [.agg c.row] [] (.bool (cfB c)) [] := by
  refine spec_of_wp (C := Spec Try.prog) (fun _ _ _ _ _ h => h) mixed m9_ok (show 1 ≤ _ by decide) ?_
  unfold m9
  simp +contextual [m9r0, m9r1, envOf, Cf.row]
  exact fin_bool (by simp [cfB, wi, Bool.and_assoc])
def T10 : List (Entry Try.prog) := [e28, e29]
section
variable {H : Heap} {K : AV → Heap → Prop} {n a b : Int}
theorem t10_a : callK (CE T10) 28 [.int .i64 n, .int .i64 a, .int .i64 b] H K = K (.bool (wi n a b)) H := callK_E (es := T10) (e := e28) rfl (n, a, b)
theorem t10_b : callK (CE T10) 29 [.int .i64 n, .int .i64 a, .int .i64 b] H K = K (.bool (wi n a b)) H := callK_E (es := T10) (e := e29) rfl (n, a, b)
end
theorem valid10 (c : Cf) : Spec Try.prog 10 [.agg c.row] [] (.bool (cfB c)) [] := by
  refine spec_of_wp (C := CE T10) CE_ok mixed m10_ok (show 1 ≤ _ by decide) ?_
  unfold m10
  simp +contextual [m10r0, m10r1, envOf, Cf.row, t10_a]
  exact fin_bool (by simp [cfB, Bool.and_assoc])

/-! ### the paths -/
theorem long31 (s : List UInt8) : Spec Try.prog 31 [.str s] [] (.bool (!pB s)) [] := by
  refine spec_of_wp (C := CE T10) CE_ok mixed m31_ok (show 1 ≤ _ by decide) ?_
  unfold m31
  simp [m31r0, m31r1, envOf, t10_b]
  exact fin_bool rfl
def idxS (p : List UInt8 → Bool) (l : List (List UInt8)) : Int := match l.findIdx? p with | some i => i | none => -1
theorem idxS_pos (p : List UInt8 → Bool) (l : List (List UInt8)) : decide (0 ≤ idxS p l) = l.any p := by
  unfold idxS
  cases h : l.findIdx? p with
  | none =>
    rw [List.findIdx?_eq_none_iff] at h
    have : l.any p = false := by
      rw [List.any_eq_false]
      intro x hx; simp [h x hx]
    rw [this]; rfl
  | some i =>
    rw [List.findIdx?_eq_some_iff_getElem] at h
    obtain ⟨hi, h1, _⟩ := h
    have : l.any p = true := by
      rw [List.any_eq_true]
      exact ⟨_, List.getElem_mem hi, h1⟩
    rw [this]
    simp
def I54 (l : List (List UInt8)) (m : Nat) (σ : Env) (H : Heap) : Prop := ∃ k : Nat, m = l.length - k ∧ k ≤ l.length ∧ (l.take k).any (fun s => !pB s) = false ∧ H = [] ∧ σ = [(0, .islice (ptRows l)), (1, .func 31 [] []), (7, .int .i64 (l.length : Nat)), (8, .int .i64 k)]
theorem idx54 (l : List (List UInt8)) (hl : l.length ≤ 100000) : Spec Try.prog 54 [.islice (ptRows l), .func 31 [] []] [] (.int .i64 (idxS (fun s => !pB s) l)) [] := by
  refine spec_of_wp (C := Spec Try.prog) (fun _ _ _ _ _ h => h) mixed m54_ok (show 2 ≤ _ by decide) ?_
  unfold m54
  simp [m54r0, m54r1, envOf]
  refine vc_loop (I54 l) l.length ⟨0, rfl, by omega, by simp, rfl, rfl⟩ ?_
  rintro m σ H ⟨k, rfl, hk, hall, rfl, rfl⟩
  by_cases hlt : k < l.length
  · have hlt2 : (k : Int) < l.length := by omega
    have z : FI (wrp .i64 ((k : Int) + 1)) (k + 1) := fi64 (by omega)
    simp [m54l7, m54r2, m54r3, m54r4, hlt, hlt2, iaddr_is]
    refine vc_call (long31 l[k]) ?_
    simp
    refine ⟨fun hp => ?_, fun hp => ?_⟩
    · simp [m54r5]
      refine fin_int ?_
      unfold idxS
      have : l.findIdx? (fun s => !pB s) = some k := by
        rw [List.findIdx?_eq_some_iff_getElem]
        refine ⟨hlt, by simp [hp], fun j hj => ?_⟩
        rw [List.any_eq_false] at hall
        exact hall _ (List.mem_take_iff_getElem.2 ⟨j, by omega, rfl⟩)
      rw [this]
    · simp [m54r6, z.o]
      refine ⟨l.length - (k + 1), Nat.sub_succ_lt_self _ _ hlt, k + 1, rfl, hlt, ?_, rfl, rfl⟩
      rw [List.take_succ_eq_append_getElem hlt, List.any_append, hall]
      simp [hp]
  · have hk2 : k = l.length := by omega
    subst hk2
    simp [m54l7, m54r2, m54r8]
    refine fin_int ?_
    rw [List.take_length] at hall
    have : l.findIdx? (fun s => !pB s) = none := by
      rw [List.findIdx?_eq_none_iff]
      rw [List.any_eq_false] at hall
      exact fun x hx => by simpa using hall x hx
    unfold idxS
    rw [this]
theorem bad30 (l : List (List UInt8)) (hl : l.length ≤ 100000) : Spec Try.prog 30 [.islice (ptRows l), .func 31 [] []] [] (.bool (!l.all pB)) [] := by
  refine spec_of_wp (C := Spec Try.prog) (fun _ _ _ _ _ h => h) mixed m30_ok (show 2 ≤ _ by decide) ?_
  unfold m30
  simp [m30r0, m30r1, envOf]
  refine vc_call (idx54 l hl) ?_
  simp
  refine fin_bool ?_
  rw [idxS_pos, List.not_all_eq_any_not]
end Go.Ab.Try.S

/- Numbers as bytes, appended: registrar.number. Conditions: none. -/
namespace Go.Ab.Try.S
open Go.Proofs

def byteZ (n : Int) (i : Nat) : UInt8 := UInt8.ofNat (n / ((256 ^ i : Nat) : Int) % 256).toNat
def numZ (n : Int) : Nat → List UInt8
  | 0 => []
  | i + 1 => byteZ n i :: numZ n i
@[simp] theorem numZ_len (n : Int) : ∀ i, (numZ n i).length = i
  | 0 => rfl
  | i + 1 => by simp [numZ, numZ_len n i]
theorem byteZ_nat (n : Int) (i : Nat) : ((byteZ n i).toNat : Int) = n / ((256 ^ i : Nat) : Int) % 256 := by
  unfold byteZ
  have h : 0 ≤ n / ((256 ^ i : Nat) : Int) % 256 ∧ n / ((256 ^ i : Nat) : Int) % 256 < 256 := by omega
  rw [UInt8.toNat_ofNat']
  omega
theorem shr_pow (j : Nat) : ((2 : Int) ^ (8 * j)) = ((256 ^ j : Nat) : Int) := by
  have : ((2 : Int) ^ (8 * j)) = ((2 ^ (8 * j) : Nat) : Int) := by simp
  rw [this, Nat.pow_mul]

theorem number34 (st : List UInt8 → AV × Heap) (n : Int) (size : Nat) (hsize : size ≤ 8)
    (hst : ∀ d x, d.length < size → appendAV (st d).2 1 1 (st d).1 (.islice [[.int .u8 (x : UInt8).toNat]]) = some (st (d ++ [x]))) {v : AV} {H' : Heap} (hv : Fin (st []).2 (st (numZ n size)).1 (st (numZ n size)).2 v H') :
    Spec Try.prog 34 [(st []).1, .int .i64 n, .int .i64 size] (st []).2 v H' := by
  refine spec_of_wp (C := Spec Try.prog) (fun _ _ _ _ _ h => h) mixed m34_ok (show 3 ≤ _ by decide) ?_
  unfold m34
  have z : FI (wrp .i64 ((size : Int) - 1)) (size - 1) := fi64 (by omega)
  simp [m34r0, m34r1, envOf, z.o]
  refine vc_loop (fun m σ H1 => ∃ (i : Nat) (f : List UInt8), m = i ∧ i ≤ size ∧ numZ n size = f ++ numZ n i ∧ H1 = (st f).2 ∧ σ = [(0, (st f).1), (1, .int .i64 n), (7, .int .i64 ((i : Int) - 1))]) size
      ⟨size, [], rfl, Nat.le_refl _, rfl, rfl, rfl⟩ ?_
  rintro i σ H1 ⟨_, f, rfl, hi, hf, rfl, rfl⟩
  match i with
  | 0 =>
    simp [m34l5, m34r2, m34r6]
    simp [numZ] at hf
    rw [← hf]
    exact hv
  | j + 1 =>
    have h0 : (0 : Int) ≤ ((j + 1 : Nat) : Int) - 1 := by omega
    have e0 : ((j + 1 : Nat) : Int) - 1 = j := by omega
    have z1 : FI (wrp .i64 (8 * (j : Int))) (8 * j) := fi64 (by omega)
    have z2 : FI (wrp .i64 ((j : Int) - 1)) (j - 1) := fi64 (by omega)
    have e1 : (8 * (j : Int)).toNat = 8 * j := by omega
    have e2 : min (8 * j) (bitsOf .i64) = 8 * j := by simp [bitsOf]; omega
    have hl : f.length < size := by
      have := congrArg List.length hf
      simp at this
      omega
    have hb : wrp .u8 (n / ((256 ^ j : Nat) : Int)) = ((byteZ n j).toNat : Int) := by rw [byteZ_nat]; rfl
    have hb' := hb
    rw [← shr_pow] at hb'
    simp only [e0]
    simp [m34l5, m34r2, m34r3, z1.o, e1, e2, hb', m34r4, z2.o]
    refine ⟨by omega, ?_⟩
    refine W_of (hst f (byteZ n j) hl) ?_
    exact ⟨j, by omega, by omega, f ++ [byteZ n j], by rw [hf]; simp [numZ], rfl, rfl, rfl⟩

theorem num_own {H : Heap} {r g size : Nat} {b : List UInt8} (n : Int) (hr : H[r]? = some (.rows g 1 (rowsU8 b))) (hsize : size ≤ 8) (hb : b.length ≤ 1000000000000) :
    Spec Try.prog 34 [.slice r g 0 b.length, .int .i64 n, .int .i64 size] H (.slice r (g + size) 0 (b.length + size)) (H.set r (.rows (g + size) 1 (rowsU8 (b ++ numZ n size)))) := by
  have hlt := (List.getElem?_eq_some_iff.1 hr).1
  have hsame : H.set r (.rows g 1 (rowsU8 b)) = H := by
    apply List.ext_getElem?
    intro i
    by_cases hk : r = i
    · subst hk; rw [List.getElem?_set_self hlt, hr]
    · rw [List.getElem?_set_ne hk]
  have h := number34 (fun d => (.slice r (g + d.length) 0 (b.length + d.length), H.set r (.rows (g + d.length) 1 (rowsU8 (b ++ d))))) n size hsize (fun d x hd => ?_) (Fin.refl _ _ _)
  · simpa [hsame] using h
  · have := append_one (H := H.set r (.rows (g + d.length) 1 (rowsU8 (b ++ d)))) (r := r) (g := g + d.length) (sz := 1) (bytes := 1) (rs := rowsU8 (b ++ d)) (row := [.int .u8 x.toNat]) (x := .islice [[.int .u8 x.toNat]]) (by simp [hlt]) rfl rfl
      (by simp [roomB]; omega)
    simp only [rowsU8_len, List.length_append] at this
    rw [this]
    simp [rowsU8, Nat.add_assoc]
theorem num_nil (H : Heap) (n : Int) (size : Nat) (hsize : size ≤ 8) (h0 : 0 < size) : Spec Try.prog 34 [.nils, .int .i64 n, .int .i64 size] H (.slice H.length (size - 1) 0 size) (H ++ [.rows (size - 1) 1 (rowsU8 (numZ n size))]) := by
  have hne : numZ n size ≠ [] := by
    intro h
    have := congrArg List.length h
    simp at this
    omega
  have h := number34 (fun d => if d = [] then (.nils, H) else (.slice H.length (d.length - 1) 0 d.length, H ++ [.rows (d.length - 1) 1 (rowsU8 d)])) n size hsize (fun d x hd => ?_) (Fin.refl _ _ _)
  · simpa [hne] using h
  · cases d with
    | nil => simp [appendAV, elems, req, roomB, rowsU8]
    | cons a d =>
      simp only [reduceCtorEq, if_false, List.cons_append]
      have := append_one (H := H ++ [.rows ((a :: d).length - 1) 1 (rowsU8 (a :: d))]) (r := H.length) (g := (a :: d).length - 1) (sz := 1) (bytes := 1) (rs := rowsU8 (a :: d)) (row := [.int .u8 x.toNat]) (x := .islice [[.int .u8 x.toNat]]) (by simp) rfl rfl
        (by simp [roomB]; simp at hd; omega)
      rw [rowsU8_len] at this
      rw [this]
      simp [rowsU8]

/-- The bytes of a text. -/
def txtB (s : List UInt8) : List UInt8 := numZ s.length 2 ++ s
def gT (s : List UInt8) : Nat := if s = [] then 2 else 3
@[simp] theorem txtB_len (s : List UInt8) : (txtB s).length = 2 + s.length := by simp [txtB]
theorem text33 {H : Heap} {r g : Nat} {b : List UInt8} (s : List UInt8) (hr : H[r]? = some (.rows g 1 (rowsU8 b))) (hb : b.length ≤ 1000000000) (hs : s.length ≤ 100000) :
    Spec Try.prog 33 [.slice r g 0 b.length, .str s] H (.slice r (g + gT s) 0 (b.length + (2 + s.length))) (H.set r (.rows (g + gT s) 1 (rowsU8 (b ++ txtB s)))) := by
  refine spec_of_wp (C := Spec Try.prog) (fun _ _ _ _ _ h => h) mixed m33_ok (show 2 ≤ _ by decide) ?_
  unfold m33
  have hlt := (List.getElem?_eq_some_iff.1 hr).1
  simp [m33r0, m33r1, envOf]
  refine vc_call (num_own (s.length : Nat) hr (size := 2) (by omega) (by omega)) ?_
  simp
  by_cases h0 : s = []
  · subst h0
    have hz := append_zero (H := H.set r (.rows (g + 2) 1 (rowsU8 (b ++ numZ 0 2)))) (r := r) (g := g + 2) (sz := 1) (bytes := 1) (rs := rowsU8 (b ++ numZ 0 2)) (x := .str []) (by simp [hlt]) rfl (by simp [roomB]; omega)
    simp only [rowsU8_len, List.length_append, numZ_len] at hz
    refine W_of hz ?_
    simp
    exact fin_of (by simp [gT])
  · have hap := append_some (H := H.set r (.rows (g + 2) 1 (rowsU8 (b ++ numZ s.length 2)))) (r := r) (g := g + 2) (sz := 1) (bytes := 1) (rs := rowsU8 (b ++ numZ s.length 2)) (x := .str s) (news := rowsU8 s) (by simp [hlt]) (by simp [rowsU8]) (rowsU8_row s) (by simp [roomB]; omega) (by simp [rowsU8, h0])
    simp only [rowsU8_len, List.length_append, numZ_len] at hap
    refine W_of hap ?_
    simp
    have e1 : g + 2 + 1 = g + gT s := by simp [gT, h0]
    have e2 : b.length + 2 + s.length = b.length + (2 + s.length) := by omega
    have e3 : rowsU8 (b ++ numZ s.length 2) ++ rowsU8 s = rowsU8 (b ++ txtB s) := by simp [rowsU8, txtB]
    rw [e1, e2, e3]
    exact Fin.refl _ _ _
end Go.Ab.Try.S

/- Numbers and texts as bytes, by the document. Conditions: none. -/
namespace Go.Ab.Try.S
open Go.Proofs

def gS (i : Nat) : Nat := if i ≤ 1 then 0 else 1
def c35 (H : Heap) (i : Nat) : AV := if i = 0 then .nils else .slice (H.length + (i - 1)) (gS i) 0 i
theorem byte_next (n : Int) (i : Nat) (h0 : 0 ≤ n) : wrp .u8 ((n / ((256 ^ i : Nat) : Int)).tmod 256) = ((byteZ n i).toNat : Int) := by
  rw [byteZ_nat, Int.tmod_eq_emod_of_nonneg (Int.ediv_nonneg h0 (Int.natCast_nonneg _))]
  rw [wrp_u8 (by omega)]
theorem div_next (n : Int) (i : Nat) (h0 : 0 ≤ n) (h1 : n < 9223372036854775808) : wrp .i64 ((n / ((256 ^ i : Nat) : Int)).tdiv 256) = n / ((256 ^ (i + 1) : Nat) : Int) := by
  have hp := Int.natCast_nonneg (256 ^ i)
  have h2 : 0 ≤ n / ((256 ^ i : Nat) : Int) := Int.ediv_nonneg h0 hp
  have e : ((256 ^ (i + 1) : Nat) : Int) = ((256 ^ i : Nat) : Int) * 256 := by rw [Nat.pow_succ]; rfl
  rw [e]
  generalize ((256 ^ i : Nat) : Int) = q at *
  rw [Int.tdiv_eq_ediv_of_nonneg h2, Int.ediv_ediv_of_nonneg hp]
  have h4 : 0 ≤ n / (q * 256) := Int.ediv_nonneg h0 (by omega)
  have h5 : n / (q * 256) ≤ n := Int.ediv_le_self _ h0
  exact wrp_i64 ⟨by omega, by omega⟩
theorem byte_next' (n : Int) (i : Nat) (h0 : 0 ≤ n) : wrp .u8 ((n / (256 : Int) ^ i).tmod 256) = ((byteZ n i).toNat : Int) := by
  have := byte_next n i h0
  rwa [Int.natCast_pow] at this
theorem div_next' (n : Int) (i : Nat) (h0 : 0 ≤ n) (h1 : n < 9223372036854775808) : wrp .i64 ((n / (256 : Int) ^ i).tdiv 256) = n / (256 : Int) ^ (i + 1) := by
  have := div_next n i h0 h1
  rwa [Int.natCast_pow, Int.natCast_pow] at this
theorem byteZ_wrap (n : Int) (i : Nat) (hi : i < 4) : byteZ (n + 4294967296) i = byteZ n i := by
  unfold byteZ
  match i, hi with
  | 0, _ => congr 2; simp; omega
  | 1, _ => congr 2; simp; omega
  | 2, _ => congr 2; simp; omega
  | 3, _ => congr 2; simp; omega
theorem numZ_wrap (n : Int) : ∀ i, i ≤ 4 → numZ (n + 4294967296) i = numZ n i
  | 0, _ => rfl
  | i + 1, h => by simp [numZ, byteZ_wrap n i (by omega), numZ_wrap n i (by omega)]

def I35 (n : Int) (size : Nat) (H : Heap) (m : Nat) (σ : Env) (H1 : Heap) : Prop := ∃ (i : Nat) (J : Heap), m = size - i ∧ i ≤ size ∧ J.length = i ∧ (0 < i → J[i - 1]? = some (.rows (gS i) 1 (rowsU8 (numZ n i)))) ∧ H1 = H ++ J ∧
  σ = [(0, .int .i64 (n / (256 : Int) ^ i)), (1, .int .i64 size), (5, c35 H i), (6, .int .i64 i)]

theorem loop35 (H : Heap) (n : Int) (size : Nat) (h0 : 0 ≤ n) (h1 : n < 9223372036854775808) (hs : 0 < size) (hs2 : size ≤ 8) {σ : Env} (e0 : σ.get 0 = .int .i64 n) (e1 : σ.get 1 = .int .i64 size) (e5 : σ.get 5 = .nils) {Q : Ex → Env → Heap → Prop}
    (hQ : ∀ J σ', J.length = size → J[size - 1]? = some (.rows (gS size) 1 (rowsU8 (numZ n size))) → σ'.get 5 = .slice (H.length + (size - 1)) (gS size) 0 size → Q .normal σ' (H ++ J)) : wpC (Spec Try.prog) H (.seq (.region m35r4 [0, 1, 5, 6]) (.block 0 (.loop [0, 1, 5, 6] m35l9))) σ H Q := by
  simp [m35r4, e0, e1, e5]
  refine vc_loop (I35 n size H) size ⟨0, [], by omega, by omega, rfl, by omega, by simp, by simp [c35]⟩ ?_
  rintro m σ H1 ⟨i, J, rfl, hi, hJ, hb, rfl, rfl⟩
  by_cases hlt : i < size
  · have hlt2 : (i : Int) < size := by omega
    have z : FI (wrp .i64 ((i : Int) + 1)) (i + 1) := fi64 (by omega)
    simp [m35l9, m35r5, hlt2, m35r6, m35r7, m35r8, byte_next' n i h0, div_next' n i h0 h1, z.o, fillRows]
    have hfr : fillRows [[AV.int IntKind.u8 0]] 1 [(0, AV.int IntKind.u8 (byteZ n i).toNat)] = some [[.int .u8 (byteZ n i).toNat]] := rfl
    have e2 : numZ n (i + 1) = [byteZ n i] ++ numZ n i := rfl
    by_cases hi0 : i = 0
    · subst hi0
      have hJ0 : J = [] := List.eq_nil_of_length_eq_zero hJ
      subst hJ0
      have hz := append_zero (H := H ++ [ABlk.rows 0 1 [[.int .u8 (byteZ n 0).toNat]]]) (r := H.length) (g := 0) (sz := 1) (bytes := 1) (rs := [[.int .u8 (byteZ n 0).toNat]]) (x := .nils) (by simp) rfl (by simp [roomB])
      simp [c35]
      refine W_of hz ?_
      exact ⟨_, by omega, 1, [ABlk.rows 0 1 [[.int .u8 (byteZ n 0).toNat]]], rfl, by omega, rfl, fun _ => by simp [numZ, rowsU8, gS], rfl, by simp [c35, gS]⟩
    · have hj := hb (by omega)
      have hap := append_some (H := H ++ (J ++ [ABlk.rows 0 1 [[.int .u8 (byteZ n i).toNat]]])) (r := H.length + J.length) (g := 0) (sz := 1) (bytes := 1) (rs := [[.int .u8 (byteZ n i).toNat]]) (x := c35 H i) (news := rowsU8 (numZ n i)) ?_ ?_ (rowsU8_row _) ?_ ?_
      · refine W_of hap ?_
        refine ⟨_, by omega, i + 1, J ++ [ABlk.rows 1 1 ([[.int .u8 (byteZ n i).toNat]] ++ rowsU8 (numZ n i))], rfl, by omega, by simp [hJ], fun _ => ?_, ?_, ?_⟩
        · have hne : J ≠ [] := fun h => hi0 (by rw [← hJ, h]; rfl)
          simp [numZ, rowsU8, gS, ← hJ, hne]
        · rw [← hJ]; simp
        · simp [c35, gS, hi0, hJ]; omega
      · simp
      · have h5 : (H ++ (J ++ [ABlk.rows 0 1 [[.int .u8 (byteZ n i).toNat]]]))[H.length + (i - 1)]? = some (.rows (gS i) 1 (rowsU8 (numZ n i))) := by
          rw [List.getElem?_append_right (by omega), Nat.add_sub_cancel_left, List.getElem?_append_left (by omega), hj]
        rw [c35, if_neg hi0, elems_sl, rowsOf_of h5]
        simp
        exact List.take_of_length_le (by simp)
      · simp [roomB]; omega
      · intro h
        have := congrArg List.length h
        simp at this
        omega
  · have hi2 : i = size := by omega
    subst hi2
    simp [m35l9, m35r5]
    refine hQ J _ hJ (hb hs) ?_
    simp [c35, Nat.ne_of_gt hs]
theorem number35 (H : Heap) (n : Int) (size : Nat) (h0 : (0 ≤ n ∧ n < 9223372036854775808) ∨ (size = 4 ∧ -4294967296 ≤ n ∧ n < 9223372036854775808)) (hs : 0 < size) (hs2 : size ≤ 8) :
    Spec Try.prog 35 [.int .i64 n, .int .i64 size] H (.slice H.length (gS size) 0 size) (H ++ [.rows (gS size) 1 (rowsU8 (numZ n size))]) := by
  refine spec_of_wp (C := Spec Try.prog) (fun _ _ _ _ _ h => h) mixed m35_ok (show 2 ≤ _ by decide) ?_
  unfold m35
  have fin : ∀ (J : Heap) (k : Nat), k = size - 1 → J[size - 1]? = some (.rows (gS size) 1 (rowsU8 (numZ n size))) → Fin H (.slice (H.length + (size - 1)) (gS size) 0 size) (H ++ J) (.slice H.length (gS size) 0 size) (H ++ [.rows (gS size) 1 (rowsU8 (numZ n size))]) := by
    intro J k _ hJ
    refine fin_keep1 hJ (rowsU8_row _) (rowsU8_plain _) ?_
    exact CV.slice (n := H.length) (i := 0) rfl
  simp [m35r0, m35r1, envOf]
  refine ⟨fun h => ?_, fun h => ?_⟩
  · have z : FI (wrp .i64 (n + 4294967296)) (n + 4294967296) := fi64 (by omega)
    have hs4 : size = 4 := by omega
    simp [m35r2, z.o, m35r3]
    refine to_seq (loop35 H (n + 4294967296) size (by omega) (by omega) hs hs2 (by simp) (by simp) (by simp) fun J σ' hJ hb e5 => ?_)
    simp [m35r10, e5]
    rw [numZ_wrap n size (by omega)] at hb
    exact fin J _ rfl hb
  · simp [m35r3]
    refine to_seq (loop35 H n size (by omega) (by omega) hs hs2 (by simp) (by simp) (by simp) fun J σ' hJ hb e5 => ?_)
    simp [m35r10, e5]
    exact fin J _ rfl hb

theorem text36 (s : List UInt8) (hs : s.length ≤ 1000000) : Spec Try.prog 36 [.str s] [] (.islice (rowsU8 (txtB s))) [] := by
  refine spec_of_wp (C := Spec Try.prog) (fun _ _ _ _ _ h => h) mixed m36_ok (show 1 ≤ _ by decide) ?_
  unfold m36
  simp [m36r0, m36r1, envOf]
  refine vc_call (number35 [] (s.length : Nat) 2 (by omega) (by omega) (by omega)) ?_
  simp
  by_cases h0 : s = []
  · subst h0
    have hz := append_zero (H := [ABlk.rows (gS 2) 1 (rowsU8 (numZ 0 2))]) (r := 0) (g := gS 2) (sz := 1) (bytes := 1) (rs := rowsU8 (numZ 0 2)) (x := .str []) rfl rfl (by simp [roomB])
    simp only [rowsU8_len, numZ_len] at hz
    refine W_of hz ?_
    simp
    exact fin_made rfl rfl (rowsU8_row _) (rowsU8_plain _)
  · have hap := append_some (H := [ABlk.rows (gS 2) 1 (rowsU8 (numZ s.length 2))]) (r := 0) (g := gS 2) (sz := 1) (bytes := 1) (rs := rowsU8 (numZ s.length 2)) (x := .str s) (news := rowsU8 s) rfl (by simp [rowsU8]) (rowsU8_row s) (by simp [roomB]; omega) (by simp [rowsU8, h0])
    simp only [rowsU8_len, numZ_len] at hap
    refine W_of hap ?_
    simp
    have e3 : rowsU8 (numZ s.length 2) ++ rowsU8 s = rowsU8 (txtB s) := by simp [rowsU8, txtB]
    rw [e3]
    exact fin_made rfl (by simp) (rowsU8_row _) (rowsU8_plain _)
end Go.Ab.Try.S
