/- Calls and events as plain data; the small functions. Conditions: none. -/
import Derived.Test.YtomcdnibcdojcaaJ33Fn
import Derived.Test.YtomcdnibcdojcaaAbTab
namespace Go.Ab.Try.S
open Go.Proofs

theorem mixed : Try.prog.follows .mixedOrders = true := by kernel_rfl

structure Ca where
  id : List UInt8
  st : Int
  h0 : Bool
  h1 : Bool
  code : Int
  beg : Int
  last : Int
  ans : Int
  fin : Int
  tr : Int
deriving DecidableEq
structure Ev where
  kind : Int
  call : List UInt8
  side : Int
  code : Int
  at_ : Int
deriving DecidableEq
def Ca.row (c : Ca) : Row := [.str c.id, .int .u8 c.st, .bool c.h0, .bool c.h1, .int .i64 c.code, .int .i64 c.beg, .int .i64 c.last, .int .i64 c.ans, .int .i64 c.fin, .int .i64 c.tr]
def Ev.row (e : Ev) : Row := [.int .u8 e.kind, .str e.call, .int .i64 e.side, .int .i64 e.code, .int .i64 e.at_]
@[simp] theorem ca_len (b : Ca) : b.row.length = 10 := rfl
@[simp] theorem ev_len (a : Ev) : a.row.length = 5 := rfl
@[simp] theorem ca_take (b : Ca) : List.take 10 b.row = b.row := rfl
@[simp] theorem ev_take (a : Ev) : List.take 5 a.row = a.row := rfl
@[simp] theorem ok_ca (b : Ca) : okRow b.row = true := rfl
@[simp] theorem ok_ev (b : Ev) : okRow b.row = true := rfl
theorem cls_ca (c : Ca) : Cls 0 c.row := Cls.cons .str (Cls.cons .int (Cls.cons .bool (Cls.cons .bool (Cls.cons .int (Cls.cons .int (Cls.cons .int (Cls.cons .int (Cls.cons .int (Cls.cons .int .nil)))))))))
theorem cls_ev (e : Ev) : Cls 0 e.row := Cls.cons .int (Cls.cons .str (Cls.cons .int (Cls.cons .int (Cls.cons .int .nil))))
theorem cl_ca (c : Ca) : Cl 0 (.agg c.row) := (cls_ca c).agg
theorem cl_ev (e : Ev) : Cl 0 (.agg e.row) := (cls_ev e).agg
theorem ca_inj {a b : Ca} (h : a.row = b.row) : a = b := by
  cases a; cases b
  simp [Ca.row] at h
  simp [h]
theorem ev_inj {a b : Ev} (h : a.row = b.row) : a = b := by
  cases a; cases b
  simp [Ev.row] at h
  simp [h]
def zeroC : Ca := ⟨[], 0, false, false, 0, 0, 0, 0, 0, 0⟩

def evB (e : Ev) : Bool := !(decide (e.kind < 1) || decide (17 < e.kind) || decide (e.call = []) || decide (e.at_ < 0) || decide (1099511627776 < e.at_)) &&
  (decide (e.side = 0) || decide (e.side = 1)) && (if e.kind = 4 then decide (300 ≤ e.code) && decide (e.code ≤ 699) else decide (e.code = 0))
def openB (c : Ca) : Bool := decide (0 < c.st) && decide (c.st < 8)
def earlyB (c : Ca) : Bool := decide (c.st = 1) || decide (c.st = 2) || decide (c.st = 6)
def inB (s : Int) (l : List Int) : Bool := l.any fun x => decide (x = s)
def stRows (l : List Int) : List Row := l.map fun n => [.int .u8 n]
def idxI (s : Int) (l : List Int) : Int := match l.findIdx? (fun x => decide (x = s)) with | some i => i | none => -1
theorem idxI_pos (s : Int) (l : List Int) : decide (0 ≤ idxI s l) = inB s l := by
  unfold idxI inB
  cases h : l.findIdx? (fun x => decide (x = s)) with
  | none =>
    rw [List.findIdx?_eq_none_iff] at h
    have : (l.any fun x => decide (x = s)) = false := by
      rw [List.any_eq_false]
      intro x hx; simp [h x hx]
    rw [this]; rfl
  | some i =>
    rw [List.findIdx?_eq_some_iff_getElem] at h
    obtain ⟨hi, h1, _⟩ := h
    have : (l.any fun x => decide (x = s)) = true := by
      rw [List.any_eq_true]
      exact ⟨_, List.getElem_mem hi, h1⟩
    rw [this]
    simp

theorem open25 (c : Ca) : Spec Try.prog 25 [.agg c.row] [] (.bool (openB c)) [] := by
  refine spec_of_wp (C := Spec Try.prog) (fun _ _ _ _ _ h => h) mixed m25_ok (show 1 ≤ _ by decide) ?_
  unfold m25
  simp +contextual [m25r0, m25r1, envOf, Ca.row]
  exact fin_bool rfl
theorem open29 (c : Ca) : Spec Try.prog 29 [.agg c.row] [] (.bool (openB c)) [] := by
  refine spec_of_wp (C := Spec Try.prog) (fun _ _ _ _ _ h => h) mixed m29_ok (show 1 ≤ _ by decide) ?_
  unfold m29
  simp +contextual [m29r0, m29r1, envOf, Ca.row]
  refine fin_bool ?_
  unfold openB
  rw [Bool.eq_iff_iff]; simp; omega
theorem early28 (c : Ca) : Spec Try.prog 28 [.agg c.row] [] (.bool (earlyB c)) [] := by
  refine spec_of_wp (C := Spec Try.prog) (fun _ _ _ _ _ h => h) mixed m28_ok (show 1 ≤ _ by decide) ?_
  unfold m28
  simp +contextual [m28r0, m28r1, envOf, Ca.row]
  exact fin_bool rfl

def I50 (s : Int) (l : List Int) (m : Nat) (σ : Env) (H : Heap) : Prop := ∃ k : Nat, m = l.length - k ∧ k ≤ l.length ∧ (l.take k).any (fun x => decide (x = s)) = false ∧ H = [] ∧ σ = [(0, .islice (stRows l)), (1, .int .u8 s), (7, .int .i64 (l.length : Nat)), (8, .int .i64 k)]
theorem idx50 (s : Int) (l : List Int) (hl : l.length ≤ 1000) : Spec Try.prog 50 [.islice (stRows l), .int .u8 s] [] (.int .i64 (idxI s l)) [] := by
  refine spec_of_wp (C := Spec Try.prog) (fun _ _ _ _ _ h => h) mixed m50_ok (show 2 ≤ _ by decide) ?_
  unfold m50
  have hsl : (stRows l).length = l.length := by simp [stRows]
  simp [m50r0, m50r1, envOf, hsl]
  refine vc_loop (I50 s l) l.length ⟨0, rfl, by omega, by simp, rfl, rfl⟩ ?_
  rintro m σ H ⟨k, rfl, hk, hall, rfl, rfl⟩
  by_cases hlt : k < l.length
  · have hlt2 : (k : Int) < l.length := by omega
    have z : FI (wrp .i64 ((k : Int) + 1)) (k + 1) := fi64 (by omega)
    have hlt' : k < (stRows l).length := by omega
    have hget : (stRows l)[k] = [.int .u8 l[k]] := by simp [stRows]
    simp [m50l7, m50r2, m50r3, m50r4, hlt, hlt2, iaddr_is, hsl, hget]
    refine ⟨fun hp => ?_, fun hp => ?_⟩
    · simp [m50r5]
      refine fin_int ?_
      unfold idxI
      have : l.findIdx? (fun x => decide (x = s)) = some k := by
        rw [List.findIdx?_eq_some_iff_getElem]
        refine ⟨hlt, by simp [hp], fun j hj => ?_⟩
        rw [List.any_eq_false] at hall
        exact hall _ (List.mem_take_iff_getElem.2 ⟨j, by omega, rfl⟩)
      rw [this]
    · simp [m50r6, z.o]
      refine ⟨l.length - (k + 1), Nat.sub_succ_lt_self _ _ hlt, k + 1, rfl, hlt, ?_, rfl, rfl⟩
      rw [List.take_succ_eq_append_getElem hlt, List.any_append, hall]
      simp
      exact fun h => hp h.symm
  · have hk2 : k = l.length := by omega
    subst hk2
    simp [m50l7, m50r2, m50r8]
    refine fin_int ?_
    rw [List.take_length] at hall
    have : l.findIdx? (fun x => decide (x = s)) = none := by
      rw [List.findIdx?_eq_none_iff]
      rw [List.any_eq_false] at hall
      exact fun x hx => by simpa using hall x hx
    unfold idxI
    rw [this]
theorem stRows_plain (l : List Int) : Plain (stRows l) := map_plain (enc := fun n : Int => [AV.int .u8 n]) (fun a c hc => by simp only [List.mem_singleton] at hc; subst hc; exact ⟨rfl, .int⟩) l
theorem has36 (s : Int) (l : List Int) (hl : l.length ≤ 1000) : Spec Try.prog 36 [.islice (stRows l), .int .u8 s] [] (.bool (inB s l)) [] := by
  refine spec_of_wp (C := Spec Try.prog) (fun _ _ _ _ _ h => h) mixed m36_ok (show 2 ≤ _ by decide) ?_
  unfold m36
  simp [m36r0, m36r1, envOf]
  refine vc_call ((idx50 s l hl).frame (Cls.cons (cl_plain (stRows_plain l)) (Cls.cons .int .nil)) .int _) ?_
  simp
  exact fin_bool (idxI_pos s l)
theorem in26 (c : Ca) (l : List Int) (hl : l.length ≤ 1000) : Spec Try.prog 26 [.agg c.row, .islice (stRows l)] [] (.bool (inB c.st l)) [] := by
  refine spec_of_wp (C := Spec Try.prog) (fun _ _ _ _ _ h => h) mixed m26_ok (show 2 ≤ _ by decide) ?_
  unfold m26
  simp [m26r0, m26r1, envOf, Ca.row]
  refine vc_call ((has36 c.st l hl).frame (Cls.cons (cl_plain (stRows_plain l)) (Cls.cons .int .nil)) .bool _) ?_
  simp
  exact fin_bool rfl

def e26 : Entry Try.prog where
  f := 26
  α := Ca × { l : List Int // l.length ≤ 1000 }
  enc p := [.agg p.1.row, .islice (stRows p.2.1)]
  res p := .bool (inB p.1.st p.2.1)
  inj a b h := by
    simp at h
    have h1 := ca_inj h.1
    have h2 : a.2.1 = b.2.1 := map_enc_inj (enc := fun n : Int => [AV.int .u8 n]) (fun x y h => by simpa using h) h.2
    rw [h1, h2]
  ok p H := (in26 p.1 p.2.1 p.2.2).frame (Cls.cons (cl_ca _) (Cls.cons (cl_plain (stRows_plain _)) .nil)) .bool H
def e25 : Entry Try.prog where
  f := 25
  α := Ca
  enc c := [.agg c.row]
  res c := .bool (openB c)
  inj a b h := by
    have : a = b := ca_inj (by simpa using h)
    rw [this]
  ok c H := (open25 c).frame (Cls.cons (cl_ca _) .nil) .bool H
theorem early27 (c : Ca) : Spec Try.prog 27 [.agg c.row] [] (.bool (earlyB c)) [] := by
  refine spec_of_wp (C := Spec Try.prog) (fun _ _ _ _ _ h => h) mixed m27_ok (show 1 ≤ _ by decide) ?_
  unfold m27
  simp [m27r0, m27r1, envOf]
  refine vc_call ((in26 c [1, 2, 6] (by decide)).frame (Cls.cons (cl_ca _) (Cls.cons (cl_plain (stRows_plain _)) .nil)) .bool _) ?_
  simp
  refine fin_bool ?_
  unfold inB earlyB
  rw [Bool.eq_iff_iff]; simp; omega
def e27 : Entry Try.prog where
  f := 27
  α := Ca
  enc c := [.agg c.row]
  res c := .bool (earlyB c)
  inj a b h := by
    have : a = b := ca_inj (by simpa using h)
    rw [this]
  ok c H := (early27 c).frame (Cls.cons (cl_ca _) .nil) .bool H
def e28 : Entry Try.prog where
  f := 28
  α := Ca
  enc c := [.agg c.row]
  res c := .bool (earlyB c)
  inj a b h := by
    have : a = b := ca_inj (by simpa using h)
    rw [this]
  ok c H := (early28 c).frame (Cls.cons (cl_ca _) .nil) .bool H
def e29 : Entry Try.prog where
  f := 29
  α := Ca
  enc c := [.agg c.row]
  res c := .bool (openB c)
  inj a b h := by
    have : a = b := ca_inj (by simpa using h)
    rw [this]
  ok c H := (open29 c).frame (Cls.cons (cl_ca _) .nil) .bool H
def TC : List (Entry Try.prog) := [e26, e25, e27, e28, e29]
section
variable {H : Heap} {K : AV → Heap → Prop} {id : List UInt8} {st code beg last ans fin tr : Int} {h0 h1 : Bool}
theorem tc_in {rows : List Row} (l : List Int) (hl : l.length ≤ 1000) (hr : rows = stRows l) : callK (CE TC) 26 [.agg [.str id, .int .u8 st, .bool h0, .bool h1, .int .i64 code, .int .i64 beg, .int .i64 last, .int .i64 ans, .int .i64 fin, .int .i64 tr], .islice rows] H K = K (.bool (inB st l)) H := by
  rw [hr]
  exact callK_E (es := TC) (e := e26) rfl (⟨id, st, h0, h1, code, beg, last, ans, fin, tr⟩, ⟨l, hl⟩)
theorem tc_open : callK (CE TC) 25 [.agg [.str id, .int .u8 st, .bool h0, .bool h1, .int .i64 code, .int .i64 beg, .int .i64 last, .int .i64 ans, .int .i64 fin, .int .i64 tr]] H K = K (.bool (openB ⟨id, st, h0, h1, code, beg, last, ans, fin, tr⟩)) H :=
  callK_E (es := TC) (e := e25) rfl (⟨id, st, h0, h1, code, beg, last, ans, fin, tr⟩ : Ca)
theorem tc_early : callK (CE TC) 27 [.agg [.str id, .int .u8 st, .bool h0, .bool h1, .int .i64 code, .int .i64 beg, .int .i64 last, .int .i64 ans, .int .i64 fin, .int .i64 tr]] H K = K (.bool (earlyB ⟨id, st, h0, h1, code, beg, last, ans, fin, tr⟩)) H :=
  callK_E (es := TC) (e := e27) rfl (⟨id, st, h0, h1, code, beg, last, ans, fin, tr⟩ : Ca)
theorem tc_early2 : callK (CE TC) 28 [.agg [.str id, .int .u8 st, .bool h0, .bool h1, .int .i64 code, .int .i64 beg, .int .i64 last, .int .i64 ans, .int .i64 fin, .int .i64 tr]] H K = K (.bool (earlyB ⟨id, st, h0, h1, code, beg, last, ans, fin, tr⟩)) H :=
  callK_E (es := TC) (e := e28) rfl (⟨id, st, h0, h1, code, beg, last, ans, fin, tr⟩ : Ca)
theorem tc_open2 : callK (CE TC) 29 [.agg [.str id, .int .u8 st, .bool h0, .bool h1, .int .i64 code, .int .i64 beg, .int .i64 last, .int .i64 ans, .int .i64 fin, .int .i64 tr]] H K = K (.bool (openB ⟨id, st, h0, h1, code, beg, last, ans, fin, tr⟩)) H :=
  callK_E (es := TC) (e := e29) rfl (⟨id, st, h0, h1, code, beg, last, ans, fin, tr⟩ : Ca)
end

theorem ev20 (e : Ev) : Spec Try.prog 20 [.agg e.row] [] (.bool (evB e)) [] := by
  refine spec_of_wp (C := Spec Try.prog) (fun _ _ _ _ _ h => h) mixed m20_ok (show 1 ≤ _ by decide) ?_
  unfold m20
  have fin : ∀ {x : Bool} {H : Heap}, x = evB e → Fin [] (.bool x) H (.bool (evB e)) [] := fun h => fin_bool h
  simp +contextual [m20r0, m20r1, envOf, Ev.row, -condK_bool]
  refine condK_of (y := decide (e.kind < 1) || decide (17 < e.kind) || decide (e.call = []) || decide (e.at_ < 0) || decide (1099511627776 < e.at_)) (by simp) (fun h => ?_) (fun h => ?_)
  · simp [m20r2]
    exact fin (by unfold evB; rw [h]; rfl)
  simp [m20r3]
  refine ⟨fun h4 => ?_, fun h4 => ?_⟩
  · simp +contextual [m20r4]
    exact fin (by unfold evB; rw [h, if_pos h4]; simp [Bool.and_assoc])
  · simp +contextual [m20r5]
    exact fin (by unfold evB; rw [h, if_neg h4]; simp)
theorem ev34 (e : Ev) : Spec Try.prog 34 [.agg e.row] [] (.bool (evB e)) [] := by
  refine spec_of_wp (C := Spec Try.prog) (fun _ _ _ _ _ h => h) mixed m34_ok (show 1 ≤ _ by decide) ?_
  unfold m34
  have fin : ∀ {x : Bool} {H : Heap}, x = evB e → Fin [] (.bool x) H (.bool (evB e)) [] := fun h => fin_bool h
  simp +contextual [m34r0, m34r1, envOf, Ev.row, -condK_bool]
  refine condK_of (y := decide (e.kind < 1) || decide (17 < e.kind) || decide (e.call = []) || decide (e.side < 0) || decide (1 < e.side) || decide (e.at_ < 0) || decide (1099511627776 < e.at_)) (by simp) (fun h => ?_) (fun h => ?_)
  · simp [m34r2]
    refine fin ?_
    unfold evB
    symm
    rw [Bool.and_eq_false_iff, Bool.and_eq_false_iff]
    simp only [Bool.or_eq_true, decide_eq_true_eq] at h
    by_cases hs : e.side = 0 ∨ e.side = 1
    · left; left
      simp only [Bool.not_eq_false', Bool.or_eq_true, decide_eq_true_eq]
      rcases h with (((((h | h) | h) | h) | h) | h) | h
      · simp [h]
      · simp [h]
      · simp [h]
      · omega
      · omega
      · simp [h]
      · simp [h]
    · left; right
      simp only [Bool.or_eq_false_iff, decide_eq_false_iff_not]
      omega
  · have hs : (decide (e.side = 0) || decide (e.side = 1)) = true := by
      simp only [Bool.or_eq_false_iff, decide_eq_false_iff_not] at h
      simp only [Bool.or_eq_true, decide_eq_true_eq]
      omega
    have hb : (decide (e.kind < 1) || decide (17 < e.kind) || decide (e.call = []) || decide (e.at_ < 0) || decide (1099511627776 < e.at_)) = false := by
      simp only [Bool.or_eq_false_iff, decide_eq_false_iff_not] at h ⊢
      exact ⟨⟨⟨⟨h.1.1.1.1.1.1, h.1.1.1.1.1.2⟩, h.1.1.1.1.2⟩, h.1.2⟩, h.2⟩
    simp [m34r3]
    refine ⟨fun h4 => ?_, fun h4 => ?_⟩
    · simp +contextual [m34r4]
      exact fin (by unfold evB; rw [hb, hs, if_pos h4]; simp)
    · simp +contextual [m34r5]
      exact fin (by unfold evB; rw [hb, hs, if_neg h4]; simp)
end Go.Ab.Try.S
