/-
  Laws for working the calculus out on given code.
  Conditions: none.
-/
import Derived.Test.YtomakhllonkpiaaAbEval
namespace Go.Ab

@[congr] theorem W_congr {α : Type} {x y : Option α} {K : α → Prop} (h : x = y) : W x K = W y K := by rw [h]

@[simp] theorem W_some {α : Type} {a : α} {K : α → Prop} : W (some a) K = K a := by
  simp [W]

@[simp] theorem W_bind {α β : Type} {x : Option α} {f : α → Option β} {K : β → Prop} : W (x.bind f) K = W x (fun a => W (f a) K) := by
  apply propext
  constructor
  · rintro ⟨b, h1, h2⟩
    simp only [Option.bind_eq_some_iff] at h1
    obtain ⟨a, h3, h4⟩ := h1
    exact ⟨a, h3, b, h4, h2⟩
  · rintro ⟨a, h1, b, h2, h3⟩
    exact ⟨b, by simp [h1, h2], h3⟩

@[simp] theorem W_req {α : Type} {p : Prop} [Decidable p] {x : Option α} {K : α → Prop} : W (req p x) K = (p ∧ W x K) := by
  apply propext
  unfold req
  constructor
  · rintro ⟨b, h1, h2⟩
    split at h1
    · rename_i hp; exact ⟨hp, b, h1, h2⟩
    · cases h1
  · rintro ⟨hp, b, h1, h2⟩
    exact ⟨b, by rw [if_pos hp]; exact h1, h2⟩

theorem W_of {α : Type} {x : Option α} {a : α} {K : α → Prop} (h : x = some a) (k : K a) : W x K := ⟨a, h, k⟩

/-! ### code -/
section
variable {C : CallR} {base : Heap} {σ : Env} {H : Heap} {Q : Ex → Env → Heap → Prop}

def regK (keep : List Nat) (Q : Ex → Env → Heap → Prop) (σ : Env) (H : Heap) : Prop := Q .normal (σ.keep keep) H
def tailK (C : CallR) (t : List MOper) (fl : List (List MOper)) (keep : List Nat) (Q : Ex → Env → Heap → Prop) (σ : Env) (H : Heap) : Prop := wpT C fl t σ H (regK keep Q)
def seqK (C : CallR) (base : Heap) (b : MCode) (Q : Ex → Env → Heap → Prop) (e : Ex) (σ : Env) (H : Heap) : Prop :=
  match e with
  | .normal => wpC C base b σ H Q
  | e => Q e σ H
def blkK (id : Nat) (Q : Ex → Env → Heap → Prop) (e : Ex) (σ : Env) (H : Heap) : Prop :=
  match e with
  | .exit i => if i = id then Q .normal σ H else Q (.exit i) σ H
  | e => Q e σ H
def loopK (I : Nat → Env → Heap → Prop) (n : Nat) (keep : List Nat) (Q : Ex → Env → Heap → Prop) (e : Ex) (σ : Env) (H : Heap) : Prop :=
  match e with
  | .normal => ∃ m, m < n ∧ I m (σ.keep keep) H
  | e => Q e σ H
def condK (v : AV) (A B : Prop) : Prop := ∃ b, v = .bool b ∧ (b = true → A) ∧ (b = false → B)
def putK (C : CallR) (os : List MOper) (dst : Option Nat) (σ : Env) (K : Env → Heap → Prop) (v : AV) (H : Heap) : Prop := wpOps C os (σ.put dst v) H K
def putU (C : CallR) (os : List MOper) (dst : Option Nat) (σ : Env) (H0 : Heap) (K : Env → Heap → Prop) (v : AV) (H : Heap) : Prop := (∃ N, H = H0 ++ N) ∧ wpU C os (σ.put dst v) H K
def putT (C : CallR) (fl : List (List MOper)) (os : List MOper) (dst : Option Nat) (σ : Env) (K : Env → Heap → Prop) (v : AV) (H : Heap) : Prop := wpT C fl os (σ.put dst v) H K
/-- A guarded operation's result: the value where it ran, the empty tuple where it was skipped. -/
noncomputable def gsel (p : Prop) (v : AV) : AV := @ite _ p (Classical.propDecidable p) v (.tup [])
def gdG (p : Prop) (opw : (AV → Heap → Prop) → Prop) (H : Heap) (k : AV → Heap → Prop) : Prop := (p → opw k) ∧ (¬p → k (.tup []) H)
def gdV (v : AV) (pol : Bool) (opw : (AV → Heap → Prop) → Prop) (H : Heap) (k : AV → Heap → Prop) : Prop := gdP v pol (opw k) (k (.tup []) H)
/-- A choice by a bool. -/
def psel (t : Bool) (a b : AV) : AV := if t then a else b
def callK (C : CallR) (f : Nat) (args : List AV) (H : Heap) (K : AV → Heap → Prop) : Prop := ∃ v H', C f args H v H' ∧ K v H'

def asBool (v : AV) (K : Bool → Prop) : Prop := ∃ t, v = .bool t ∧ K t
def asStr (v : AV) (K : List UInt8 → Prop) : Prop := ∃ t, v = .str t ∧ K t
def asAgg (v : AV) (K : List AV → Prop) : Prop := ∃ t, v = .agg t ∧ K t
def asTup (v : AV) (K : List AV → Prop) : Prop := ∃ t, v = .tup t ∧ K t
def asFunc (v : AV) (K : Nat → List AV → List AV → Prop) : Prop := ∃ f a b, v = .func f a b ∧ K f a b
def nilK (v : AV) (K : AV → Prop) : Prop := ((∃ r g i j, v = .ptr r g i j) ∨ (∃ rows i j, v = .iptr rows i j) ∨ ∃ f a b, v = .func f a b) ∧ K v
def strOfAV (H : Heap) (v : AV) : Option (List UInt8) := match v with
  | .str _ => none
  | v => (elems H v).bind bytesOf

@[simp] theorem asBool_eq {t : Bool} {K : Bool → Prop} : asBool (.bool t) K = K t := by simp [asBool]
@[simp] theorem asStr_eq {t : List UInt8} {K : List UInt8 → Prop} : asStr (.str t) K = K t := by simp [asStr]
@[simp] theorem asAgg_eq {t : List AV} {K : List AV → Prop} : asAgg (.agg t) K = K t := by simp [asAgg]
@[simp] theorem asTup_eq {t : List AV} {K : List AV → Prop} : asTup (.tup t) K = K t := by simp [asTup]
@[simp] theorem asFunc_eq {f : Nat} {a b : List AV} {K : Nat → List AV → List AV → Prop} : asFunc (.func f a b) K = K f a b := by
  apply propext
  constructor
  · rintro ⟨_, _, _, h, k⟩; cases h; exact k
  · intro k; exact ⟨_, _, _, rfl, k⟩
@[simp] theorem nilK_p {r g i j : Nat} {K : AV → Prop} : nilK (.ptr r g i j) K = K (.ptr r g i j) := by simp [nilK]
@[simp] theorem nilK_i {rows : List Row} {i j : Nat} {K : AV → Prop} : nilK (.iptr rows i j) K = K (.iptr rows i j) := by simp [nilK]
@[simp] theorem nilK_f {f : Nat} {a b : List AV} {K : AV → Prop} : nilK (.func f a b) K = K (.func f a b) := by simp [nilK]
@[simp] theorem strOf_i {rows : List Row} : strOfAV H (.islice rows) = bytesOf rows := rfl
@[simp] theorem strOf_n : strOfAV H .nils = some [] := rfl
@[simp] theorem strOf_s {r g i n : Nat} : strOfAV H (.slice r g i n) = (elems H (.slice r g i n)).bind bytesOf := rfl

@[congr] theorem asBool_congr {x y : AV} {K : Bool → Prop} (h : x = y) : asBool x K = asBool y K := by rw [h]
@[congr] theorem asStr_congr {x y : AV} {K : List UInt8 → Prop} (h : x = y) : asStr x K = asStr y K := by rw [h]
@[congr] theorem asAgg_congr {x y : AV} {K : List AV → Prop} (h : x = y) : asAgg x K = asAgg y K := by rw [h]
@[congr] theorem asTup_congr {x y : AV} {K : List AV → Prop} (h : x = y) : asTup x K = asTup y K := by rw [h]
@[congr] theorem asFunc_congr {x y : AV} {K : Nat → List AV → List AV → Prop} (h : x = y) : asFunc x K = asFunc y K := by rw [h]
@[congr] theorem nilK_congr {x y : AV} {K : AV → Prop} (h : x = y) : nilK x K = nilK y K := by rw [h]
@[congr] theorem regK_congr {keep : List Nat} {Q : Ex → Env → Heap → Prop} {σ σ' : Env} {H H' : Heap} (h : σ = σ') (h2 : H = H') : regK keep Q σ H = regK keep Q σ' H' := by rw [h, h2]
@[congr] theorem tailK_congr {C : CallR} {t : List MOper} {fl : List (List MOper)} {keep : List Nat} {Q : Ex → Env → Heap → Prop} {σ σ' : Env} {H H' : Heap} (h : σ = σ') (h2 : H = H') : tailK C t fl keep Q σ H = tailK C t fl keep Q σ' H' := by rw [h, h2]
@[congr] theorem seqK_congr {C : CallR} {base : Heap} {b : MCode} {Q : Ex → Env → Heap → Prop} {e : Ex} {σ σ' : Env} {H H' : Heap} (h : σ = σ') (h2 : H = H') : seqK C base b Q e σ H = seqK C base b Q e σ' H' := by rw [h, h2]
@[congr] theorem blkK_congr {id : Nat} {Q : Ex → Env → Heap → Prop} {e : Ex} {σ σ' : Env} {H H' : Heap} (h : σ = σ') (h2 : H = H') : blkK id Q e σ H = blkK id Q e σ' H' := by rw [h, h2]
@[congr] theorem loopK_congr {I : Nat → Env → Heap → Prop} {n : Nat} {keep : List Nat} {Q : Ex → Env → Heap → Prop} {e : Ex} {σ σ' : Env} {H H' : Heap} (h : σ = σ') (h2 : H = H') : loopK I n keep Q e σ H = loopK I n keep Q e σ' H' := by rw [h, h2]
@[congr] theorem callK_congr {C : CallR} {f : Nat} {args args' : List AV} {H H' : Heap} {K : AV → Heap → Prop} (h : args = args') (h2 : H = H') : callK C f args H K = callK C f args' H' K := by rw [h, h2]
@[congr] theorem putK_congr {C : CallR} {os : List MOper} {dst : Option Nat} {σ : Env} {K : Env → Heap → Prop} {v v' : AV} {H H' : Heap} (h : v = v') (h2 : H = H') : putK C os dst σ K v H = putK C os dst σ K v' H' := by rw [h, h2]
@[congr] theorem putT_congr {C : CallR} {fl : List (List MOper)} {os : List MOper} {dst : Option Nat} {σ : Env} {K : Env → Heap → Prop} {v v' : AV} {H H' : Heap} (h : v = v') (h2 : H = H') : putT C fl os dst σ K v H = putT C fl os dst σ K v' H' := by rw [h, h2]
@[congr] theorem loopC_congr {C : CallR} {base : Heap} {keep : List Nat} {b : MCode} {Q : Ex → Env → Heap → Prop} {σ σ' : Env} {H H' : Heap} (h : σ = σ') (h2 : H = H') : wpC C base (.loop keep b) σ H Q = wpC C base (.loop keep b) σ' H' Q := by rw [h, h2]

@[simp] theorem regK_eq {keep : List Nat} : regK keep Q σ H = Q .normal (σ.keep keep) H := propext Iff.rfl
@[simp] theorem tailK_eq {t : List MOper} {fl : List (List MOper)} {keep : List Nat} : tailK C t fl keep Q σ H = wpT C fl t σ H (regK keep Q) := propext Iff.rfl
@[simp] theorem seqK_n {b : MCode} : seqK C base b Q .normal σ H = wpC C base b σ H Q := propext Iff.rfl
@[simp] theorem seqK_e {b : MCode} {i : Nat} : seqK C base b Q (.exit i) σ H = Q (.exit i) σ H := propext Iff.rfl
@[simp] theorem seqK_r {b : MCode} : seqK C base b Q .ret σ H = Q .ret σ H := propext Iff.rfl
@[simp] theorem blkK_n {id : Nat} : blkK id Q .normal σ H = Q .normal σ H := propext Iff.rfl
@[simp] theorem blkK_e {id i : Nat} : blkK id Q (.exit i) σ H = if i = id then Q .normal σ H else Q (.exit i) σ H := propext Iff.rfl
@[simp] theorem blkK_r {id : Nat} : blkK id Q .ret σ H = Q .ret σ H := propext Iff.rfl
@[simp] theorem loopK_n {I : Nat → Env → Heap → Prop} {n : Nat} {keep : List Nat} : loopK I n keep Q .normal σ H = ∃ m, m < n ∧ I m (σ.keep keep) H := propext Iff.rfl
@[simp] theorem loopK_e {I : Nat → Env → Heap → Prop} {n : Nat} {keep : List Nat} {i : Nat} : loopK I n keep Q (.exit i) σ H = Q (.exit i) σ H := propext Iff.rfl
@[simp] theorem loopK_r {I : Nat → Env → Heap → Prop} {n : Nat} {keep : List Nat} : loopK I n keep Q .ret σ H = Q .ret σ H := propext Iff.rfl
@[simp] theorem putK_eq {os : List MOper} {dst : Option Nat} {K : Env → Heap → Prop} {v : AV} : putK C os dst σ K v H = wpOps C os (σ.put dst v) H K := propext Iff.rfl
@[simp] theorem putT_eq {fl : List (List MOper)} {os : List MOper} {dst : Option Nat} {K : Env → Heap → Prop} {v : AV} : putT C fl os dst σ K v H = wpT C fl os (σ.put dst v) H K := propext Iff.rfl
@[simp] theorem putU_eq {os : List MOper} {dst : Option Nat} {K : Env → Heap → Prop} {v : AV} : putU C os dst σ H K v H = wpU C os (σ.put dst v) H K :=
  propext ⟨fun h => h.2, fun h => ⟨⟨[], by simp⟩, h⟩⟩
@[simp] theorem putU_app {os : List MOper} {dst : Option Nat} {K : Env → Heap → Prop} {v : AV} {N : Heap} : putU C os dst σ H K v (H ++ N) = wpU C os (σ.put dst v) (H ++ N) K :=
  propext ⟨fun h => h.2, fun h => ⟨⟨N, rfl⟩, h⟩⟩

@[simp] theorem wpC_skip : wpC C base .skip σ H Q = Q .normal σ H := propext Iff.rfl
@[simp] theorem wpC_region {ops : List MOper} {keep : List Nat} : wpC C base (.region ops keep) σ H Q = wpOps C ops σ H (regK keep Q) := propext Iff.rfl
@[simp] theorem wpC_dregion {u t : List MOper} {fl : List (List MOper)} {keep : List Nat} : wpC C base (.dregion u t fl keep) σ H Q = wpU C u σ H (tailK C t fl keep Q) := propext Iff.rfl
@[simp] theorem wpC_seq {a b : MCode} : wpC C base (.seq a b) σ H Q = wpC C base a σ H (seqK C base b Q) := by
  show wpC C base a σ H _ = _
  congr 1
@[simp] theorem wpC_cond {c : Opd} {a b : MCode} : wpC C base (.cond c a b) σ H Q = condK (c.ev σ) (wpC C base a σ H Q) (wpC C base b σ H Q) := propext Iff.rfl
@[simp] theorem wpC_block {id : Nat} {a : MCode} : wpC C base (.block id a) σ H Q = wpC C base a σ H (blkK id Q) := by
  show wpC C base a σ H _ = _
  congr 1
@[simp] theorem wpC_scope {a : MCode} : wpC C base (.scope a) σ H Q = wpC C base a σ H Q := propext Iff.rfl
@[simp] theorem wpC_exit {i : Nat} : wpC C base (.exit i) σ H Q = Q (.exit i) σ H := propext Iff.rfl
@[simp] theorem wpC_ret : wpC C base .ret σ H Q = Q .ret σ H := propext Iff.rfl

/-- The rule of loops. -/
theorem vc_loop {keep : List Nat} {body : MCode} (I : Nat → Env → Heap → Prop) (n0 : Nat) (h0 : I n0 (σ.keep keep) H) (h : ∀ n σ H, I n σ H → wpC C base body σ H (loopK I n keep Q)) : wpC C base (.loop keep body) σ H Q := by
  refine ⟨I, ⟨n0, h0⟩, fun n σ H hI => ?_⟩
  refine wpC_mono (fun e σ H q => ?_) (h n σ H hI)
  cases e <;> exact q

theorem vc_conv {σ' : Env} {H' : Heap} (h : Conv base σ H σ' H') (k : Q .normal σ' H') : wpC C base .conv σ H Q := ⟨σ', H', h, k⟩

theorem vc_call {f : Nat} {args : List AV} {K : AV → Heap → Prop} {v : AV} {H' : Heap} (h : C f args H v H') (k : K v H') : callK C f args H K := ⟨v, H', h, k⟩

@[simp] theorem condK_bool {b : Bool} {A B : Prop} : condK (.bool b) A B = ((b = true → A) ∧ (b = false → B)) := by
  apply propext
  constructor
  · rintro ⟨c, h1, h2⟩; cases h1; exact h2
  · intro h; exact ⟨b, rfl, h⟩
theorem gsel_t {p : Prop} (h : p) {v : AV} : gsel p v = v := by unfold gsel; rw [if_pos h]
theorem gsel_f {p : Prop} (h : ¬p) {v : AV} : gsel p v = .tup [] := by unfold gsel; rw [if_neg h]
@[simp] theorem gsel_ok {p : Prop} {v : AV} (h : p) : gsel p v = v := gsel_t h
@[simp] theorem gsel_no {v : AV} : gsel False v = .tup [] := gsel_f id
section
variable {p p' q : Prop} {opw opw' : (AV → Heap → Prop) → Prop} {k : AV → Heap → Prop} {v v' : AV} {pol b : Bool} {J J' : Heap}
@[congr] theorem gdV_congr (h : v = v') : gdV v pol opw J k = gdV v' pol opw J k := by rw [h]
@[congr] theorem gdG_congr (h : p = p') (ho : p' → opw = opw') (hJ : J = J') : gdG p opw J k = gdG p' opw' J' k := by
  subst h hJ
  apply propext
  unfold gdG
  constructor
  · rintro ⟨h1, h2⟩; exact ⟨fun hp => ho hp ▸ h1 hp, h2⟩
  · rintro ⟨h1, h2⟩; exact ⟨fun hp => (ho hp).symm ▸ h1 hp, h2⟩
@[simp] theorem gdV_bool : gdV (.bool b) pol opw J k = gdG (b = pol) opw J k := by
  apply propext
  unfold gdV gdP gdG
  constructor
  · rintro (⟨h, _⟩ | ⟨c, h1, h2, h3⟩)
    · cases h
    · cases h1; exact ⟨h2, fun h => h3 (by cases b <;> cases pol <;> first | rfl | exact absurd rfl h)⟩
  · rintro ⟨h1, h2⟩; exact .inr ⟨b, rfl, h1, fun h => h2 (fun e => by subst e; cases b <;> cases h)⟩
@[simp] theorem gdV_skip : gdV (.tup []) pol opw J k = k (.tup []) J := by
  apply propext
  unfold gdV gdP
  constructor
  · rintro (⟨_, h⟩ | ⟨c, h1, _⟩)
    · exact h
    · cases h1
  · intro h; exact .inl ⟨rfl, h⟩
@[simp] theorem gdV_sel : gdV (gsel p (.bool b)) pol opw J k = gdG (p ∧ b = pol) opw J k := by
  by_cases hp : p
  · rw [gsel_t hp, gdV_bool, show (p ∧ b = pol) = (b = pol) from propext ⟨fun h => h.2, fun h => ⟨hp, h⟩⟩]
  · rw [gsel_f hp, gdV_skip]
    exact propext ⟨fun h => ⟨fun h2 => absurd h2.1 hp, fun _ => h⟩, fun h => h.2 (fun h2 => hp h2.1)⟩
@[simp] theorem gdG_true : gdG True opw J k = opw k := by simp [gdG]
@[simp] theorem gdG_false : gdG False opw J k = k (.tup []) J := by simp [gdG]
@[simp] theorem gdG_val : gdG p (fun k => k v J) J k = k (gsel p v) J := by
  by_cases hp : p
  · rw [gsel_t hp]; exact propext ⟨fun h => h.1 hp, fun h => ⟨fun _ => h, fun hn => absurd hp hn⟩⟩
  · rw [gsel_f hp]; exact propext ⟨fun h => h.2 hp, fun h => ⟨fun h2 => absurd h2 hp, fun _ => h⟩⟩
@[simp] theorem gdG_and : gdG p (fun k => q ∧ k v J) J k = ((p → q) ∧ k (gsel p v) J) := by
  by_cases hp : p
  · rw [gsel_t hp]; exact propext ⟨fun h => ⟨fun _ => (h.1 hp).1, (h.1 hp).2⟩, fun h => ⟨fun _ => ⟨h.1 hp, h.2⟩, fun hn => absurd hp hn⟩⟩
  · rw [gsel_f hp]; exact propext ⟨fun h => ⟨fun h2 => absurd h2 hp, h.2 hp⟩, fun h => ⟨fun h2 => absurd h2 hp, fun _ => h.2⟩⟩
@[simp] theorem gdG_val2 (h : p → J' = J) : gdG p (fun k => k v J') J k = k (gsel p v) J := by
  by_cases hp : p
  · rw [h hp, gdG_val]
  · rw [gsel_f hp]; exact propext ⟨fun h => h.2 hp, fun h => ⟨fun h2 => absurd h2 hp, fun _ => h⟩⟩
@[simp] theorem gdG_and2 (h : p → J' = J) : gdG p (fun k => q ∧ k v J') J k = ((p → q) ∧ k (gsel p v) J) := by
  by_cases hp : p
  · rw [h hp, gdG_and]
  · rw [gsel_f hp]; exact propext ⟨fun h => ⟨fun h2 => absurd h2 hp, h.2 hp⟩, fun h => ⟨fun h2 => absurd h2 hp, fun _ => h.2⟩⟩
/-- A guarded operation that may be worked out by hand. -/
theorem gdG_of (v : AV) (h : p → ∀ k, k v J → opw k) (hk : k (gsel p v) J) : gdG p opw J k := by
  by_cases hp : p
  · rw [gsel_t hp] at hk; exact ⟨fun _ => h hp k hk, fun hn => absurd hp hn⟩
  · rw [gsel_f hp] at hk; exact ⟨fun h => absurd h hp, fun _ => hk⟩
@[simp] theorem psel_t {a c : AV} : psel true a c = a := rfl
@[simp] theorem psel_f {a c : AV} : psel false a c = c := rfl
@[simp] theorem psel_or {c x : Bool} (h : c = false → p) : psel c (.bool true) (gsel p (.bool x)) = .bool (c || x) := by
  cases c
  · rw [gsel_t (h rfl)]; rfl
  · rfl
@[simp] theorem psel_and {c x : Bool} (h : c = true → p) : psel c (gsel p (.bool x)) (.bool false) = .bool (c && x) := by
  cases c
  · rfl
  · rw [gsel_t (h rfl)]; rfl
@[simp] theorem psel_bb {c x y : Bool} : psel c (.bool x) (.bool y) = .bool (if c then x else y) := by cases c <;> rfl
end

/-! ### operations -/
variable {K : Env → Heap → Prop} {R : AV → Heap → Prop}

@[simp] theorem wpOps_nil : wpOps C [] σ H K = K σ H := propext Iff.rfl
@[simp] theorem wpOps_n {op : MOp} {dst : Option Nat} {rs : List Nat} {os : List MOper} : wpOps C (⟨op, none, dst, rs⟩ :: os) σ H K = wpOp C σ H op (putK C os dst σ K) := propext Iff.rfl
@[simp] theorem wpOps_g {op : MOp} {t : Nat} {pol : Bool} {dst : Option Nat} {rs : List Nat} {os : List MOper} :
    wpOps C (⟨op, some (t, pol), dst, rs⟩ :: os) σ H K = gdV (σ.get t) pol (fun k => wpOp C σ H op k) H (putK C os dst σ K) := propext Iff.rfl
theorem flOk_nil : flOk [] σ H = True := by simp [flOk]
@[simp] theorem flOk_cons {agg : Option Nat} {a : Opd} {g : Option (Nat × Bool)} {d : Nat} {rs : List Nat} {fl : List MOper} :
    flOk (⟨.load agg a, g, some d, rs⟩ :: fl) σ H = (loadAV H agg (a.ev (σ.keep rs)) = some (σ.get d) ∧ flOk fl σ H) := by
  apply propext
  constructor
  · intro h
    obtain ⟨d', agg', a', h1, h2, h3⟩ := h _ (List.mem_cons_self ..)
    cases h1
    cases h2
    exact ⟨h3, fun o ho => h o (List.mem_cons_of_mem _ ho)⟩
  · rintro ⟨h1, h2⟩ o ho
    rcases List.mem_cons.1 ho with rfl | ho
    · exact ⟨d, agg, a, rfl, rfl, h1⟩
    · exact h2 o ho
@[simp] theorem flOk_nil' : flOk [] σ H = True := flOk_nil
@[simp] theorem wpT_nil {fl : List (List MOper)} : wpT C fl [] σ H K = (flOk (fl.headD []) σ H ∧ K σ H) := propext Iff.rfl
@[simp] theorem wpT_n {fl : List (List MOper)} {op : MOp} {dst : Option Nat} {rs : List Nat} {os : List MOper} : wpT C fl (⟨op, none, dst, rs⟩ :: os) σ H K = (flOk (fl.headD []) σ H ∧ wpOp C (σ.keep rs) H op (putT C fl.tail os dst σ K)) := propext Iff.rfl
@[simp] theorem wpT_g {fl : List (List MOper)} {op : MOp} {t : Nat} {pol : Bool} {dst : Option Nat} {rs : List Nat} {os : List MOper} :
    wpT C fl (⟨op, some (t, pol), dst, rs⟩ :: os) σ H K = (flOk (fl.headD []) σ H ∧ gdV (σ.get t) pol (fun k => wpOp C (σ.keep rs) H op k) H (putT C fl.tail os dst σ K)) := propext Iff.rfl
@[simp] theorem wpU_nil : wpU C [] σ H K = K σ H := propext Iff.rfl
@[simp] theorem wpU_n {op : MOp} {dst : Option Nat} {rs : List Nat} {os : List MOper} : wpU C (⟨op, none, dst, rs⟩ :: os) σ H K = wpOp C (σ.keep rs) H op (putU C os dst σ H K) := propext Iff.rfl
@[simp] theorem wpU_g {op : MOp} {t : Nat} {pol : Bool} {dst : Option Nat} {rs : List Nat} {os : List MOper} :
    wpU C (⟨op, some (t, pol), dst, rs⟩ :: os) σ H K = gdV (σ.get t) pol (fun k => wpOp C (σ.keep rs) H op k) H (putU C os dst σ H K) := by
  have e : putU C os dst σ H K (.tup []) H = wpU C os (σ.put dst (.tup [])) H K := by simp
  unfold gdV
  rw [e]
  rfl

@[simp] theorem wpOp_call {f : Nat} {args : List Opd} : wpOp C σ H (.call f args) R = callK C f (args.map (·.ev σ)) H R := propext Iff.rfl
@[simp] theorem wpOp_mv {x : Opd} : wpOp C σ H (.mv x) R = R (x.ev σ) H := W_some
@[simp] theorem wpOp_pick {c a b : Opd} : wpOp C σ H (.pick c a b) R = asBool (c.ev σ) fun t => R (psel t (a.ev σ) (b.ev σ)) H := by
  simp only [wpOp, stepOp, psel]
  cases c.ev σ <;> simp [asBool, W]
@[simp] theorem wpOp_box {n : Nat} {x : Opd} : wpOp C σ H (.box n x) R = W (cellsFit n (x.ev σ)) fun cs => R (.ptr H.length 0 0 0) (H ++ [.rows 0 cs.length [cs]]) := by
  simp only [wpOp, stepOp, W_bind, W_some]
@[simp] theorem wpOp_zbox {z : Row} : wpOp C σ H (.zbox z) R = (okRow z = true ∧ R (.ptr H.length 0 0 0) (H ++ [.rows 0 z.length [z]])) := by
  simp only [wpOp, stepOp, W_req, W_some]
@[simp] theorem wpOp_build {z : Row} {parts : List (Nat × Nat × Opd)} : wpOp C σ H (.build z parts) R = W (fillAV z (parts.map fun p => (p.1, p.2.1, p.2.2.ev σ))) fun cs => R (.agg cs) H := by
  simp only [wpOp, stepOp, W_bind, W_some]
@[simp] theorem wpOp_mkslice {z : Row} {n : Nat} {parts : List (Nat × Opd)} : wpOp C σ H (.mkslice z n parts) R =
    (okRow z = true ∧ W (fillRows (List.replicate n z) z.length (parts.map fun p => (p.1, p.2.ev σ))) fun rs => R (.slice H.length 0 0 n) (H ++ [.rows 0 z.length rs])) := by
  simp only [wpOp, stepOp, W_req, W_bind, W_some]
@[simp] theorem wpOp_mkfrz {z : Row} {n : Nat} {parts : List (Nat × Opd)} : wpOp C σ H (.mkfrz z n parts) R =
    (okRow z = true ∧ W (fillRows (List.replicate n z) z.length (parts.map fun p => (p.1, p.2.ev σ))) fun rs => R (.islice rs) H) := by
  simp only [wpOp, stepOp, W_req, W_bind, W_some]
@[simp] theorem wpOp_load {g : Option Nat} {a : Opd} : wpOp C σ H (.load g a) R = W (loadAV H g (a.ev σ)) fun v => R v H := by
  simp only [wpOp, stepOp, W_bind, W_some]
@[simp] theorem wpOp_store {n : Nat} {a v : Opd} : wpOp C σ H (.store n a v) R = W (storeAV H n (a.ev σ) (v.ev σ)) fun H' => R .undef H' := by
  simp only [wpOp, stepOp, W_bind, W_some]
@[simp] theorem wpOp_bin {op : BinOp} {t : TK} {x y : Opd} : wpOp C σ H (.bin op t x y) R = W (binAV op t (x.ev σ) (y.ev σ)) fun v => R v H := by
  simp only [wpOp, stepOp, W_bind, W_some]
@[simp] theorem wpOp_un {op : UnOp} {x : Opd} : wpOp C σ H (.un op x) R = W (unAV op (x.ev σ)) fun v => R v H := by
  simp only [wpOp, stepOp, W_bind, W_some]
@[simp] theorem wpOp_conv {k : IntKind} {x : Opd} : wpOp C σ H (.conv k x) R = W (intOf (x.ev σ)) fun n => R (.int k (wrp k n)) H := by
  simp only [wpOp, stepOp, W_bind, W_some]
@[simp] theorem wpOp_make {z : Row} {b : Nat} {l c : Opd} : wpOp C σ H (.make z b l c) R = W (makeAV H z b (l.ev σ) (c.ev σ)) fun p => R p.1 p.2 := propext Iff.rfl
@[simp] theorem wpOp_slc {n : Nat} {x : Opd} {lo hi mx : Option Opd} : wpOp C σ H (.slc n x lo hi mx) R = W (slcAV H n (x.ev σ) (lo.map (·.ev σ)) (hi.map (·.ev σ)) (mx.map (·.ev σ))) fun v => R v H := by
  simp only [wpOp, stepOp, W_bind, W_some]
@[simp] theorem wpOp_faddr {off : Nat} {x : Opd} : wpOp C σ H (.faddr off x) R = W (faddrAV off (x.ev σ)) fun v => R v H := by
  simp only [wpOp, stepOp, W_bind, W_some]
@[simp] theorem wpOp_iaddr {n : Nat} {x ix : Opd} : wpOp C σ H (.iaddr n x ix) R = W (intOf (ix.ev σ)) fun i => W (iaddrAV H n (x.ev σ) i) fun v => R v H := by
  simp only [wpOp, stepOp, W_bind, W_some]
@[simp] theorem wpOp_aaddr {l n : Nat} {x ix : Opd} : wpOp C σ H (.aaddr l n x ix) R = W (intOf (ix.ev σ)) fun i => W (aaddrAV l n (x.ev σ) i) fun v => R v H := by
  simp only [wpOp, stepOp, W_bind, W_some]
@[simp] theorem wpOp_look {kk : Nat} {z : AV} {ok : Bool} {m k : Opd} : wpOp C σ H (.look kk z ok m k) R = W (lookAV H kk z ok (m.ev σ) (k.ev σ)) fun v => R v H := by
  simp only [wpOp, stepOp, W_bind, W_some]
@[simp] theorem wpOp_mupd {kk : Nat} {m k v : Opd} : wpOp C σ H (.mupd kk m k v) R = W (mupdAV H kk (m.ev σ) (k.ev σ) (v.ev σ)) fun H' => R .undef H' := by
  simp only [wpOp, stepOp, W_bind, W_some]
@[simp] theorem wpOp_mkmap : wpOp C σ H .mkmap R = R (.map H.length) (H ++ [.map [] 0]) := W_some
@[simp] theorem wpOp_mkfn {f : Nat} {a b : List Opd} : wpOp C σ H (.mkfn f a b) R = R (.func f (a.map (·.ev σ)) (b.map (·.ev σ))) H := W_some
@[simp] theorem wpOp_len {k : Nat} {x : Opd} : wpOp C σ H (.len k x) R = W (lenAV H k (x.ev σ)) fun n => R (.int .i64 (n : Int)) H := by
  simp only [wpOp, stepOp, W_bind, W_some]
@[simp] theorem wpOp_append {n b : Nat} {s x : Opd} : wpOp C σ H (.append n b s x) R = W (appendAV H n b (s.ev σ) (x.ev σ)) fun p => R p.1 p.2 := propext Iff.rfl
@[simp] theorem wpOp_copy {n : Nat} {s x : Opd} : wpOp C σ H (.copy n s x) R = W (copyAV H n (s.ev σ) (x.ev σ)) fun p => R p.1 p.2 := propext Iff.rfl
@[simp] theorem wpOp_minmax {m : Bool} {x : Opd} {xs : List Opd} : wpOp C σ H (.minmax m x xs) R = W (mmAV m (x.ev σ) (xs.map (·.ev σ))) fun v => R v H := by
  simp only [wpOp, stepOp, W_bind, W_some]

@[simp] theorem wpOp_nilchk {x : Opd} : wpOp C σ H (.nilchk x) R = nilK (x.ev σ) fun v => R v H := by
  simp only [wpOp, stepOp]
  cases x.ev σ <;> simp [nilK, W]
@[simp] theorem wpOp_ofstr {x : Opd} : wpOp C σ H (.ofstr x) R = asStr (x.ev σ) fun s => R (.slice H.length 0 0 s.length) (H ++ [.rows 0 1 (s.map fun b => [.int .u8 b.toNat])]) := by
  simp only [wpOp, stepOp]
  cases x.ev σ <;> simp [asStr, W]
@[simp] theorem wpOp_strid {x : Opd} : wpOp C σ H (.strid x) R = asStr (x.ev σ) fun s => R (.str s) H := by
  simp only [wpOp, stepOp]
  cases x.ev σ <;> simp [asStr, W]
@[simp] theorem wpOp_slid {x : Opd} {r g i n : Nat} (h : x.ev σ = .slice r g i n) : wpOp C σ H (.slid x) R = (0 < n ∧ W (H.blkOf r g) fun _ => R (.slice r g i n) H) := by
  simp only [wpOp, stepOp, h, W_req, W_bind, W_some]
@[simp] theorem wpOp_tostr {x : Opd} : wpOp C σ H (.tostr x) R = W (strOfAV H (x.ev σ)) fun s => R (.str s) H := by
  simp only [wpOp, stepOp, strOfAV]
  cases x.ev σ <;> simp only [W_bind, W_some] <;> simp [W]
@[simp] theorem wpOp_sslc {x : Opd} {lo hi : Option Opd} : wpOp C σ H (.sslc x lo hi) R = asStr (x.ev σ) fun s => W (sslcAV s (lo.map (·.ev σ)) (hi.map (·.ev σ))) fun v => R v H := by
  simp only [wpOp, stepOp]
  cases x.ev σ <;> simp [asStr, W_bind, W_some] <;> simp [W]
@[simp] theorem wpOp_fld {off : Nat} {g : Option Nat} {x : Opd} : wpOp C σ H (.fld off g x) R = asAgg (x.ev σ) fun cs => W (cut cs off g) fun v => R v H := by
  simp only [wpOp, stepOp]
  cases x.ev σ <;> simp [asAgg, W_bind, W_some] <;> simp [W]
@[simp] theorem wpOp_sidx {x ix : Opd} : wpOp C σ H (.sidx x ix) R = asStr (x.ev σ) fun s => W (intOf (ix.ev σ)) fun n => 0 ≤ n ∧ W s[n.toNat]? fun b => R (.int .u8 b.toNat) H := by
  simp only [wpOp, stepOp, W_bind]
  cases x.ev σ <;> simp [asStr, W_req, W_bind, W_some] <;> simp [W]
@[simp] theorem wpOp_aidx {l n : Nat} {g : Bool} {x ix : Opd} : wpOp C σ H (.aidx l n g x ix) R = asAgg (x.ev σ) fun cs => W (intOf (ix.ev σ)) fun i => (0 ≤ i ∧ i < (l : Int)) ∧ W (cut cs (i.toNat * n) (if g then some n else none)) fun v => R v H := by
  simp only [wpOp, stepOp, W_bind]
  cases x.ev σ <;> simp [asAgg, W_req, W_bind, W_some] <;> simp [W]
@[simp] theorem wpOp_ext {i : Nat} {x : Opd} : wpOp C σ H (.ext i x) R = asTup (x.ev σ) fun vs => W vs[i]? fun v => R v H := by
  simp only [wpOp, stepOp]
  cases x.ev σ <;> simp [asTup, W_bind, W_some] <;> simp [W]
/-- A call of a function's value, or of a loop's yield. -/
def cvK (C : CallR) (v : AV) (args : List AV) (H : Heap) (R : AV → Heap → Prop) : Prop :=
  match v with
  | .func f a b => f ≠ 0 ∧ callK C f (a ++ args ++ b) H R
  | .yld r => callK C 0 (.yld r :: args) H R
  | _ => False
@[simp] theorem cvK_f {f : Nat} {a b args : List AV} : cvK C (.func f a b) args H R = (f ≠ 0 ∧ callK C f (a ++ args ++ b) H R) := propext Iff.rfl
@[simp] theorem cvK_y {r : Nat} {args : List AV} : cvK C (.yld r) args H R = callK C 0 (.yld r :: args) H R := propext Iff.rfl
@[congr] theorem cvK_congr {v v' : AV} {args args' : List AV} {R : AV → Heap → Prop} (h : v = v') (h2 : args = args') : cvK C v args H R = cvK C v' args' H R := by rw [h, h2]
@[simp] theorem wpOp_callv {x : Opd} {args : List Opd} : wpOp C σ H (.callv x args) R = cvK C (x.ev σ) (args.map (·.ev σ)) H R := by
  simp only [wpOp]
  cases h : x.ev σ <;> rfl

/-! ### values -/
@[simp] theorem cells_int {k : IntKind} {n : Int} : (AV.int k n).cells = [.int k n] := rfl
@[simp] theorem cells_bool {b : Bool} : (AV.bool b).cells = [.bool b] := rfl
@[simp] theorem cells_str {s : List UInt8} : (AV.str s).cells = [.str s] := rfl
@[simp] theorem cells_islice {rows : List Row} : (AV.islice rows).cells = [.islice rows] := rfl
@[simp] theorem cells_slice {r g i n : Nat} : (AV.slice r g i n).cells = [.slice r g i n] := rfl
@[simp] theorem cells_nils : AV.nils.cells = [.nils] := rfl
@[simp] theorem cells_ptr {r g i j : Nat} : (AV.ptr r g i j).cells = [.ptr r g i j] := rfl
@[simp] theorem cells_iptr {rows : List Row} {i j : Nat} : (AV.iptr rows i j).cells = [.iptr rows i j] := rfl
@[simp] theorem cells_nilp : AV.nilp.cells = [.nilp] := rfl
@[simp] theorem cells_map {r : Nat} : (AV.map r).cells = [.map r] := rfl
@[simp] theorem cells_nilmap : AV.nilmap.cells = [.nilmap] := rfl
@[simp] theorem cells_func {f : Nat} {a b : List AV} : (AV.func f a b).cells = [.func f a b] := rfl
@[simp] theorem cells_agg {cs : List AV} : (AV.agg cs).cells = cs := rfl
@[simp] theorem ev_tmp {t : Nat} : (Opd.tmp t).ev σ = σ.get t := rfl
@[simp] theorem ev_lit {v : AV} : (Opd.lit v).ev σ = v := rfl
@[simp] theorem put_some {d : Nat} {v : AV} : σ.put (some d) v = (d, v) :: σ := rfl
@[simp] theorem put_none {v : AV} : σ.put none v = σ := rfl
@[simp] theorem get_cons {s t : Nat} {v : AV} {τ : List (Nat × AV)} : Env.get ((s, v) :: τ) t = if s = t then v else Env.get τ t := rfl
@[simp] theorem get_nil {t : Nat} : Env.get [] t = .undef := rfl
@[simp] theorem keep_cons {k : Nat} {ks : List Nat} : σ.keep (k :: ks) = (k, σ.get k) :: σ.keep ks := rfl
@[simp] theorem keep_nil : σ.keep [] = [] := rfl
end

section
variable {k : IntKind} {t : TK} {a b : Int} {x y : List UInt8}
@[simp] theorem bin_add : binAV .add t (.int k a) (.int k b) = some (.int k (wrp k (a + b))) := by simp [binAV, binI]
@[simp] theorem bin_sub : binAV .sub t (.int k a) (.int k b) = some (.int k (wrp k (a - b))) := by simp [binAV, binI]
@[simp] theorem bin_mul : binAV .mul t (.int k a) (.int k b) = some (.int k (wrp k (a * b))) := by simp [binAV, binI]
@[simp] theorem bin_quo : binAV .quo t (.int k a) (.int k b) = req (b ≠ 0) (some (.int k (wrp k (a.tdiv b)))) := by simp [binAV, binI]
@[simp] theorem bin_rem : binAV .rem t (.int k a) (.int k b) = req (b ≠ 0) (some (.int k (a.tmod b))) := by simp [binAV, binI]
@[simp] theorem bin_and : binAV .and t (.int k a) (.int k b) = some (.int k (wrp k ((toU k a &&& toU k b : Nat) : Int))) := by simp [binAV, binI]
@[simp] theorem bin_or : binAV .or t (.int k a) (.int k b) = some (.int k (wrp k ((toU k a ||| toU k b : Nat) : Int))) := by simp [binAV, binI]
@[simp] theorem bin_xor : binAV .xor t (.int k a) (.int k b) = some (.int k (wrp k ((toU k a ^^^ toU k b : Nat) : Int))) := by simp [binAV, binI]
@[simp] theorem bin_eql : binAV .eql t (.int k a) (.int k b) = some (.bool (decide (a = b))) := by simp [binAV, binI]
@[simp] theorem bin_neq : binAV .neq t (.int k a) (.int k b) = some (.bool (!decide (a = b))) := by simp [binAV, binI]
@[simp] theorem bin_lss : binAV .lss t (.int k a) (.int k b) = some (.bool (decide (a < b))) := by simp [binAV, binI]
@[simp] theorem bin_leq : binAV .leq t (.int k a) (.int k b) = some (.bool (decide (a ≤ b))) := by simp [binAV, binI]
@[simp] theorem bin_gtr : binAV .gtr t (.int k a) (.int k b) = some (.bool (decide (b < a))) := by simp [binAV, binI]
@[simp] theorem bin_geq : binAV .geq t (.int k a) (.int k b) = some (.bool (decide (b ≤ a))) := by simp [binAV, binI]
@[simp] theorem bin_shl {k' : IntKind} : binAV .shl t (.int k a) (.int k' b) = req (0 ≤ b) (some (.int k (wrp k (a * ((2 ^ (min b.toNat (bitsOf k)) : Nat) : Int))))) := by simp [binAV, shI]
@[simp] theorem bin_shr {k' : IntKind} : binAV .shr t (.int k a) (.int k' b) = req (0 ≤ b) (some (.int k (a / ((2 ^ (min b.toNat (bitsOf k)) : Nat) : Int)))) := by simp [binAV, shI]
@[simp] theorem bin_seql : binAV .eql t (.str x) (.str y) = some (.bool (decide (x = y))) := by simp [binAV, strOp]
@[simp] theorem bin_sneq : binAV .neq t (.str x) (.str y) = some (.bool (!decide (x = y))) := by simp [binAV, strOp]
@[simp] theorem bin_sadd : binAV .add t (.str x) (.str y) = req (x.length + y.length ≤ 9223372036854775807) (some (.str (x ++ y))) := by simp [binAV, strOp]
@[simp] theorem bin_beql {p q : Bool} : binAV .eql .bool (.bool p) (.bool q) = some (.bool (p == q)) := by simp [binAV, eqAV]
@[simp] theorem bin_bneq {p q : Bool} : binAV .neq .bool (.bool p) (.bool q) = some (.bool !(p == q)) := by simp [binAV, eqAV]
@[simp] theorem un_neg : unAV .neg (.int k a) = some (.int k (wrp k (0 - a))) := rfl
@[simp] theorem un_xor : unAV .xor (.int k a) = some (.int k (wrp k ((toU k a ^^^ mask k : Nat) : Int))) := rfl
@[simp] theorem un_not {p : Bool} : unAV .not (.bool p) = some (.bool !p) := rfl
@[simp] theorem wrpN_u8 (n : Nat) : wrp .u8 (n : Int) = ((n % 256 : Nat) : Int) := by simp [wrp]
theorem wrpN_u16 (n : Nat) : wrp .u16 (n : Int) = ((n % 65536 : Nat) : Int) := by simp [wrp]
theorem wrpN_u32 (n : Nat) : wrp .u32 (n : Int) = ((n % 4294967296 : Nat) : Int) := by simp [wrp]
theorem wrpN_u64 (n : Nat) : wrp .u64 (n : Int) = ((n % 18446744073709551616 : Nat) : Int) := by simp [wrp]
theorem toUN_u8 (n : Nat) : toU .u8 (n : Int) = n % 256 := by simp only [toU]; omega
theorem toUN_u16 (n : Nat) : toU .u16 (n : Int) = n % 65536 := by simp only [toU]; omega
theorem toUN_u32 (n : Nat) : toU .u32 (n : Int) = n % 4294967296 := by simp only [toU]; omega
theorem toUN_u64 (n : Nat) : toU .u64 (n : Int) = n % 18446744073709551616 := by simp only [toU]; omega
theorem wrp_i64 {n : Int} (h : -9223372036854775808 ≤ n ∧ n < 9223372036854775808) : wrp .i64 n = n := by simp only [wrp]; omega
theorem wrp_i32 {n : Int} (h : -2147483648 ≤ n ∧ n < 2147483648) : wrp .i32 n = n := by simp only [wrp]; omega
theorem wrp_i16 {n : Int} (h : -32768 ≤ n ∧ n < 32768) : wrp .i16 n = n := by simp only [wrp]; omega
theorem wrp_i8 {n : Int} (h : -128 ≤ n ∧ n < 128) : wrp .i8 n = n := by simp only [wrp]; omega
theorem wrp_u64 {n : Int} (h : 0 ≤ n ∧ n < 18446744073709551616) : wrp .u64 n = n := by simp only [wrp]; omega
theorem wrp_u32 {n : Int} (h : 0 ≤ n ∧ n < 4294967296) : wrp .u32 n = n := by simp only [wrp]; omega
theorem wrp_u16 {n : Int} (h : 0 ≤ n ∧ n < 65536) : wrp .u16 n = n := by simp only [wrp]; omega
theorem wrp_u8 {n : Int} (h : 0 ≤ n ∧ n < 256) : wrp .u8 n = n := by simp only [wrp]; omega
theorem fin_of {H0 H1 : Heap} {v1 v : AV} (h : v1 = v) : Fin H0 v1 H1 v H1 := h ▸ Fin.refl H0 v1 H1
@[simp] theorem res_nil {σ : Env} {H : Heap} : resAV σ H [] = some [] := rfl
@[simp] theorem res_tmp {σ : Env} {H : Heap} {t : Nat} {rs : List MRes} : resAV σ H (.tmp t :: rs) = (resAV σ H rs).bind fun vs => some (σ.get t :: vs) := rfl
@[simp] theorem res_cell {σ : Env} {H : Heap} {t : Nat} {g : Option Nat} {rs : List MRes} : resAV σ H (.cell t g :: rs) = (loadAV H g (σ.get t)).bind fun v => (resAV σ H rs).bind fun vs => some (v :: vs) := rfl
@[simp] theorem one_one {v : AV} : oneOf [v] = v := rfl
@[simp] theorem one_two {v u : AV} {vs : List AV} : oneOf (v :: u :: vs) = .tup (v :: u :: vs) := rfl
@[simp] theorem len_is {H : Heap} {rows : List Row} : lenAV H 1 (.islice rows) = some rows.length := rfl
@[simp] theorem len_s {H : Heap} {r g i n : Nat} : lenAV H 1 (.slice r g i n) = some n := rfl
@[simp] theorem len_n {H : Heap} : lenAV H 1 .nils = some 0 := rfl
@[simp] theorem len_str {H : Heap} {s : List UInt8} : lenAV H 0 (.str s) = some s.length := rfl
@[simp] theorem intOf_i : intOf (.int k a) = some a := rfl
@[simp] theorem req_t {p : Prop} [Decidable p] {α : Type} {x : Option α} (h : p) : req p x = x := if_pos h
@[simp] theorem len_map {H : Heap} {r : Nat} : lenAV H 2 (.map r) = (match H[r]? with | some (.map es _) => some es.length | _ => none) := rfl
@[simp] theorem row_z {H : Heap} {g g' s i : Nat} {rs : List Row} : Heap.row (.rows g' s rs :: H) 0 g i = if g = g' then rs[i]? else none := rfl
@[simp] theorem row_s {H : Heap} {b : ABlk} {r g i : Nat} : Heap.row (b :: H) (r + 1) g i = Heap.row H r g i := by simp [Heap.row]
@[simp] theorem rowsOf_z {H : Heap} {g g' s : Nat} {rs : List Row} : Heap.rowsOf (.rows g' s rs :: H) 0 g = if g = g' then some rs else none := rfl
@[simp] theorem rowsOf_s {H : Heap} {b : ABlk} {r g : Nat} : Heap.rowsOf (b :: H) (r + 1) g = Heap.rowsOf H r g := by simp [Heap.rowsOf]
@[simp] theorem blkOf_z {H : Heap} {g g' s : Nat} {rs : List Row} : Heap.blkOf (.rows g' s rs :: H) 0 g = if g = g' then some (s, rs) else none := rfl
@[simp] theorem blkOf_s {H : Heap} {b : ABlk} {r g : Nat} : Heap.blkOf (b :: H) (r + 1) g = Heap.blkOf H r g := by simp [Heap.blkOf]
theorem row_of {H : Heap} {r g s i : Nat} {rs : List Row} (h : H[r]? = some (.rows g s rs)) : H.row r g i = rs[i]? := by simp [Heap.row, h]
theorem rowsOf_of {H : Heap} {r g s : Nat} {rs : List Row} (h : H[r]? = some (.rows g s rs)) : H.rowsOf r g = some rs := by simp [Heap.rowsOf, h]
theorem blkOf_of {H : Heap} {r g s : Nat} {rs : List Row} (h : H[r]? = some (.rows g s rs)) : H.blkOf r g = some (s, rs) := by simp [Heap.blkOf, h]
@[simp] theorem load_p {H : Heap} {g : Option Nat} {r gg i j : Nat} : loadAV H g (.ptr r gg i j) = (H.row r gg i).bind fun row => cut row j g := rfl
@[simp] theorem load_ip {H : Heap} {g : Option Nat} {rows : List Row} {i j : Nat} : loadAV H g (.iptr rows i j) = rows[i]?.bind fun row => cut row j g := rfl
@[simp] theorem cut_n {row : Row} {j : Nat} : cut row j none = row[j]? := rfl
@[simp] theorem cut_s {row : Row} {j n : Nat} : cut row j (some n) = req (j + n ≤ row.length) (some (.agg ((row.drop j).take n))) := rfl
@[simp] theorem store_p {H : Heap} {sz r g i j : Nat} {v : AV} : storeAV H sz (.ptr r g i j) v = (H.blkOf r g).bind fun b => b.2[i]?.bind fun row =>
      req (v.cells.length = sz ∧ j + sz ≤ row.length ∧ okRow v.cells = true) (some (H.set r (.rows g b.1 (b.2.set i (splice row j v.cells))))) := rfl
@[simp] theorem splice_eq {row cs : Row} {j : Nat} : splice row j cs = row.take j ++ cs ++ row.drop (j + cs.length) := rfl
@[simp] theorem faddr_p {off r g i j : Nat} : faddrAV off (.ptr r g i j) = some (.ptr r g i (j + off)) := rfl
@[simp] theorem faddr_ip {off i j : Nat} {rows : List Row} : faddrAV off (.iptr rows i j) = some (.iptr rows i (j + off)) := rfl
@[simp] theorem okRow_nil : okRow [] = true := rfl
@[simp] theorem okRow_cons {c : AV} {cs : Row} : okRow (c :: cs) = (c.sc && okRow cs) := rfl
@[simp] theorem okRow_app {a b : Row} : okRow (a ++ b) = (okRow a && okRow b) := by simp [okRow]
@[simp] theorem sc_int {k : IntKind} {n : Int} : (AV.int k n).sc = true := rfl
@[simp] theorem sc_bool {b : Bool} : (AV.bool b).sc = true := rfl
@[simp] theorem sc_str {s : List UInt8} : (AV.str s).sc = true := rfl
@[simp] theorem sc_islice {rows : List Row} : (AV.islice rows).sc = true := rfl
@[simp] theorem sc_slice {r g i n : Nat} : (AV.slice r g i n).sc = true := rfl
@[simp] theorem sc_nils : AV.nils.sc = true := rfl
@[simp] theorem sc_ptr {r g i j : Nat} : (AV.ptr r g i j).sc = true := rfl
@[simp] theorem sc_iptr {rows : List Row} {i j : Nat} : (AV.iptr rows i j).sc = true := rfl
@[simp] theorem sc_nilp : AV.nilp.sc = true := rfl
@[simp] theorem sc_map {r : Nat} : (AV.map r).sc = true := rfl
@[simp] theorem sc_func {f : Nat} {a b : List AV} : (AV.func f a b).sc = true := rfl
@[simp] theorem sc_nilmap : AV.nilmap.sc = true := rfl
@[simp] theorem cellsFit_eq {n : Nat} {v : AV} : cellsFit n v = req (v.cells.length = n ∧ okRow v.cells = true) (some v.cells) := rfl
@[simp] theorem fillAV_nil {cells : Row} : fillAV cells [] = some cells := rfl
@[simp] theorem fillAV_cons {cells : Row} {off size : Nat} {v : AV} {rest : List (Nat × Nat × AV)} : fillAV cells ((off, size, v) :: rest) = req (v.cells.length = size ∧ off + size ≤ cells.length ∧ okRow v.cells = true) (fillAV (splice cells off v.cells) rest) := rfl
@[simp] theorem fillRows_nil {rs : List Row} {sz : Nat} : fillRows rs sz [] = some rs := rfl
@[simp] theorem fillRows_cons {rs : List Row} {sz i : Nat} {v : AV} {rest : List (Nat × AV)} : fillRows rs sz ((i, v) :: rest) = req (v.cells.length = sz ∧ i < rs.length ∧ okRow v.cells = true) (fillRows (rs.set i v.cells) sz rest) := rfl
@[simp] theorem natOf_none {d : Nat} : natOf d none = some d := rfl
@[simp] theorem natOf_some {d : Nat} {k : IntKind} {n : Int} : natOf d (some (.int k n)) = req (0 ≤ n) (some n.toNat) := rfl
@[simp] theorem slc_i {H : Heap} {sz : Nat} {rows : List Row} {lo hi mx : Option AV} : slcAV H sz (.islice rows) lo hi mx = (natOf 0 lo).bind fun l => (natOf rows.length hi).bind fun h => (natOf rows.length mx).bind fun m =>
      req (l ≤ h ∧ h ≤ m ∧ m ≤ rows.length ∧ (mx.isSome = true → hi.isSome = true) ∧ ∀ row ∈ rows, row.length = sz) (some (.islice ((rows.drop l).take (h - l)))) := rfl
@[simp] theorem slc_s {H : Heap} {sz r g i n : Nat} {lo hi mx : Option AV} : slcAV H sz (.slice r g i n) lo hi mx = (natOf 0 lo).bind fun l => (natOf n hi).bind fun h => (natOf n mx).bind fun m =>
      (H.blkOf r g).bind fun b => req (l ≤ h ∧ h ≤ m ∧ m ≤ n ∧ (mx.isSome = true → hi.isSome = true) ∧ b.1 = sz) (some (.slice r g (i + l) (h - l))) := rfl
@[simp] theorem slc_n {H : Heap} {sz : Nat} {lo hi mx : Option AV} : slcAV H sz .nils lo hi mx = (natOf 0 lo).bind fun l => (natOf 0 hi).bind fun h => (natOf 0 mx).bind fun m => req (l = 0 ∧ h = 0 ∧ m = 0 ∧ (mx.isSome = true → hi.isSome = true)) (some .nils) := rfl
@[simp] theorem sslc_eq {s : List UInt8} {lo hi : Option AV} : sslcAV s lo hi = (natOf 0 lo).bind fun l => (natOf s.length hi).bind fun h => req (l ≤ h ∧ h ≤ s.length) (some (.str ((s.drop l).take (h - l)))) := rfl
@[simp] theorem make_eq {H : Heap} {z : Row} {bytes : Nat} {k k' : IntKind} {l c : Int} : makeAV H z bytes (.int k l) (.int k' c) = req (0 ≤ l ∧ l ≤ c ∧ c * (bytes : Int) ≤ (roomB : Int) ∧ okRow z = true) (some (.slice H.length 0 0 l.toNat, H ++ [.rows 0 z.length (List.replicate l.toNat z)])) := rfl
@[simp] theorem elems_i {H : Heap} {rows : List Row} : elems H (.islice rows) = some rows := rfl
@[simp] theorem elems_n {H : Heap} : elems H .nils = some [] := rfl
@[simp] theorem elems_sl {H : Heap} {r g i n : Nat} : elems H (.slice r g i n) = (H.rowsOf r g).bind fun rs => req (i + n ≤ rs.length) (some ((rs.drop i).take n)) := rfl
@[simp] theorem elems_str {H : Heap} {s : List UInt8} : elems H (.str s) = some (s.map fun b => [.int .u8 b.toNat]) := rfl
@[simp] theorem mm_one {mx : Bool} {k : IntKind} {x y : Int} : mmAV mx (.int k x) [.int k y] = some (.int k (if mx then max x y else min x y)) := by
  cases mx <;> simp [mmAV, mm2, req] <;> split <;> omega
theorem at_app {H L : Heap} {k : Nat} : (H ++ L)[H.length + k]? = L[k]? := by rw [List.getElem?_append_right (by omega)]; congr 1; omega
theorem at_app0 {H L : Heap} : (H ++ L)[H.length]? = L[0]? := at_app (k := 0)
@[simp] theorem row_app0 {H L : Heap} {g i : Nat} : Heap.row (H ++ L) H.length g i = Heap.row L 0 g i := by simp only [Heap.row, at_app0]
@[simp] theorem row_app {H L : Heap} {k g i : Nat} : Heap.row (H ++ L) (H.length + k) g i = Heap.row L k g i := by simp only [Heap.row, at_app]
@[simp] theorem rowsOf_app0 {H L : Heap} {g : Nat} : Heap.rowsOf (H ++ L) H.length g = Heap.rowsOf L 0 g := by simp only [Heap.rowsOf, at_app0]
@[simp] theorem rowsOf_app {H L : Heap} {k g : Nat} : Heap.rowsOf (H ++ L) (H.length + k) g = Heap.rowsOf L k g := by simp only [Heap.rowsOf, at_app]
@[simp] theorem blkOf_app0 {H L : Heap} {g : Nat} : Heap.blkOf (H ++ L) H.length g = Heap.blkOf L 0 g := by simp only [Heap.blkOf, at_app0]
@[simp] theorem blkOf_app {H L : Heap} {k g : Nat} : Heap.blkOf (H ++ L) (H.length + k) g = Heap.blkOf L k g := by simp only [Heap.blkOf, at_app]
@[simp] theorem set_app0 {H L : Heap} {x : ABlk} : (H ++ L).set H.length x = H ++ L.set 0 x := by simp
@[simp] theorem set_app {H L : Heap} {k : Nat} {x : ABlk} : (H ++ L).set (H.length + k) x = H ++ L.set k x := by simp
theorem set_appl {H L : Heap} {r : Nat} {x : ABlk} (h : r < H.length) : (H ++ L).set r x = H.set r x ++ L := List.set_append_left _ _ h
theorem load_i {H : Heap} {g : Option Nat} {rows : List Row} {i j : Nat} : loadAV H g (.iptr rows i j) = rows[i]?.bind fun row => cut row j g := rfl
theorem iaddr_i {H : Heap} {sz : Nat} {rows : List Row} {n : Int} {row : Row} (h0 : 0 ≤ n) (h : rows[n.toNat]? = some row) (hl : row.length = sz) : iaddrAV H sz (.islice rows) n = some (.iptr rows n.toNat 0) := by
  have hlt := (List.getElem?_eq_some_iff.1 h).1
  simp only [iaddrAV, req, h, Option.bind_some, hl, if_true]
  rw [if_pos ⟨h0, by omega⟩]
theorem load_iptr {H : Heap} {g : Option Nat} {rows : List Row} {i j : Nat} {row : Row} {v : AV} (h : rows[i]? = some row) (hc : cut row j g = some v) : loadAV H g (.iptr rows i j) = some v := by
  simp [loadAV, h, hc]
end
end Go.Ab

/-
  Slices of a call's own: what an append makes of them, and how they are turned immutable.
  Conditions: none.
-/
namespace Go.Ab

/-- The slice c lies in the block r, and these are its rows. -/
def Own (H : Heap) (r sz : Nat) (c : AV) (rows : List Row) : Prop :=
  ∃ g i n rs, c = .slice r g i n ∧ H[r]? = some (.rows g sz rs) ∧ i + n ≤ rs.length ∧ (rs.drop i).take n = rows ∧ ∀ row ∈ rs, row.length = sz

/-- Rows of plain cells. -/
def Plain (rows : List Row) : Prop := ∀ row ∈ rows, ∀ c ∈ row, c.sc = true ∧ Cl 0 c

theorem Own.elems {H : Heap} {r sz : Nat} {c : AV} {rows : List Row} (h : Own H r sz c rows) : elems H c = some rows := by
  obtain ⟨g, i, n, rs, rfl, hb, hle, rfl, _⟩ := h
  simp [Ab.elems, Heap.rowsOf, hb, req, hle]

theorem Own.len {H : Heap} {r sz : Nat} {c : AV} {rows : List Row} (h : Own H r sz c rows) : lenAV H 1 c = some rows.length := by
  obtain ⟨g, i, n, rs, rfl, hb, hle, rfl, _⟩ := h
  simp [lenAV]
  omega

theorem Own.rowLen {H : Heap} {r sz : Nat} {c : AV} {rows : List Row} (h : Own H r sz c rows) : ∀ row ∈ rows, row.length = sz := by
  obtain ⟨g, i, n, rs, rfl, hb, hle, rfl, hs⟩ := h
  exact fun row hr => hs row (List.mem_of_mem_drop (List.mem_of_mem_take hr))

theorem own_new {H : Heap} {sz : Nat} {rs : List Row} (hs : ∀ row ∈ rs, row.length = sz) : Own (H ++ [.rows 0 sz rs]) H.length sz (.slice H.length 0 0 rs.length) rs :=
  ⟨0, 0, rs.length, rs, rfl, by simp, by simp, by simp, hs⟩

theorem Own.more {H N : Heap} {r sz : Nat} {c : AV} {rows : List Row} (h : Own H r sz c rows) : Own (H ++ N) r sz c rows := by
  obtain ⟨g, i, n, rs, h1, hb, h2⟩ := h
  exact ⟨g, i, n, rs, h1, by rw [List.getElem?_append_left (List.getElem?_eq_some_iff.1 hb).1]; exact hb, h2⟩

theorem Own.lt {H : Heap} {r sz : Nat} {c : AV} {rows : List Row} (h : Own H r sz c rows) : r < H.length := by
  obtain ⟨g, i, n, rs, h1, hb, h2⟩ := h
  exact (List.getElem?_eq_some_iff.1 hb).1

/-- An append to a slice of the call's own. -/
theorem Own.append {H : Heap} {r sz bytes : Nat} {c x : AV} {rows news : List Row} (h : Own H r sz c rows) (hx : Ab.elems H x = some news) (hl : ∀ row ∈ news, row.length = sz) (hroom : (rows.length + news.length) * bytes ≤ roomB) :
    ∃ c' b, appendAV H sz bytes c x = some (c', H.set r b) ∧ Own (H.set r b) r sz c' (rows ++ news) := by
  have hlt := h.lt
  obtain ⟨g, i, n, rs, rfl, hb, hle, rfl, hs⟩ := h
  have hn : ((rs.drop i).take n).length = n := by simp; omega
  rw [hn] at hroom
  have hblk : H.blkOf r g = some (sz, rs) := by simp [Heap.blkOf, hb]
  cases news with
  | nil =>
    have hset : H.set r (.rows g sz rs) = H := by
      apply List.ext_getElem?
      intro k
      by_cases hk : r = k
      · subst hk; rw [List.getElem?_set_self hlt, hb]
      · rw [List.getElem?_set_ne hk]
    refine ⟨.slice r g i n, .rows g sz rs, ?_, ?_⟩
    · simp [appendAV, hx, req, hblk, hle, hset]
      simpa using hroom
    · rw [hset]
      exact ⟨g, i, n, rs, rfl, hb, hle, by simp, hs⟩
  | cons row rest =>
    refine ⟨.slice r (g + 1) 0 (n + (row :: rest).length), .rows (g + 1) sz ((rs.drop i).take n ++ (row :: rest)), ?_, ?_⟩
    · simp only [appendAV, hx, Option.bind_some, req, if_pos hl, hblk]
      rw [if_pos ⟨trivial, hle, hroom⟩]
    · refine ⟨g + 1, 0, n + (row :: rest).length, (rs.drop i).take n ++ (row :: rest), rfl, by rw [List.getElem?_set_self hlt], ?_, ?_, ?_⟩
      · rw [List.length_append, hn]; omega
      · rw [List.drop_zero, List.take_of_length_le]; rw [List.length_append, hn]; omega
      · intro row' hr
        rcases List.mem_append.1 hr with hr | hr
        · exact hs row' (List.mem_of_mem_drop (List.mem_of_mem_take hr))
        · exact hl row' hr

/-- An append to the nil slice. -/
theorem append_nil {H : Heap} {sz bytes : Nat} {x : AV} {row : Row} {rest : List Row} (hx : Ab.elems H x = some (row :: rest)) (hl : ∀ r ∈ row :: rest, r.length = sz) (hroom : (row :: rest).length * bytes ≤ roomB) :
    appendAV H sz bytes .nils x = some (.slice H.length 0 0 (row :: rest).length, H ++ [.rows 0 sz (row :: rest)]) := by
  simp only [appendAV, hx, Option.bind_some, req, if_pos hl, if_pos hroom]

theorem append_nil0 {H : Heap} {sz bytes : Nat} {x : AV} (hx : Ab.elems H x = some []) : appendAV H sz bytes .nils x = some (.nils, H) := by
  simp [appendAV, hx, req]

/-- Turned immutable. -/
theorem Own.freeze {J : Heap} {r sz : Nat} {c : AV} {rows : List Row} (h : Own J r sz c rows) (hp : Plain rows) : CV 0 J [] c (.islice rows) := by
  obtain ⟨g, i, n, rs, rfl, hb, hle, rfl, hs⟩ := h
  have hin : ∀ (k : Nat) row, ((rs.drop i).take n)[k]? = some row → rs[i + k]? = some row := by
    intro k row h
    rw [List.getElem?_take] at h
    split at h
    · rw [List.getElem?_drop] at h; exact h
    · cases h
  have := CV.fz (n := 0) (J := J) (ks := []) (k := r) (g := g) (a := i) (m := n) (rows := (rs.drop i).take n) (fun k j => (((rs[i + k]?).getD [])[j]?).getD .undef) hb (by simp) hle (by simp; omega)
    (fun row hr => hs row (List.mem_of_mem_drop (List.mem_of_mem_take hr)))
    (fun k row j c h1 h2 => ⟨⟨row, hin k row h1, by simp [hin k row h1, h2]⟩, (hp row (List.mem_of_getElem? h1) c (List.mem_of_getElem? h2)).1⟩)
    (fun k row j c h1 h2 => by simp only [hin k row h1, Option.getD_some, h2]; exact .refl (hp row (List.mem_of_getElem? h1) c (List.mem_of_getElem? h2)).2)
  simpa using this

theorem cl_plain {n : Nat} {rows : List Row} (hp : Plain rows) : Cl n (.islice rows) :=
  .islice fun _ row _ c h1 h2 => ((hp row (List.mem_of_getElem? h1) c (List.mem_of_getElem? h2)).2).mono (Nat.zero_le _)

/-- An append of one row to a slice that covers its block. -/
theorem append_one {H : Heap} {r g sz bytes : Nat} {x : AV} {rs : List Row} {row : Row} (hb : H[r]? = some (.rows g sz rs)) (hx : Ab.elems H x = some [row]) (hl : row.length = sz) (hroom : (rs.length + 1) * bytes ≤ roomB) :
    appendAV H sz bytes (.slice r g 0 rs.length) x = some (.slice r (g + 1) 0 (rs.length + 1), H.set r (.rows (g + 1) sz (rs ++ [row]))) := by
  have hblk : H.blkOf r g = some (sz, rs) := by simp [Heap.blkOf, hb]
  have hlen : ∀ q ∈ [row], q.length = sz := by simp [hl]
  simp only [appendAV, hx, Option.bind_some, req, if_pos hlen, hblk]
  rw [if_pos ⟨trivial, by omega, by simpa using hroom⟩]
  simp

/-- An append of some rows to a slice that covers its block. -/
theorem append_some {H : Heap} {r g sz bytes : Nat} {x : AV} {rs news : List Row} (hb : H[r]? = some (.rows g sz rs)) (hx : Ab.elems H x = some news) (hl : ∀ row ∈ news, row.length = sz) (hroom : (rs.length + news.length) * bytes ≤ roomB) (hne : news ≠ []) :
    appendAV H sz bytes (.slice r g 0 rs.length) x = some (.slice r (g + 1) 0 (rs.length + news.length), H.set r (.rows (g + 1) sz (rs ++ news))) := by
  have hblk : H.blkOf r g = some (sz, rs) := by simp [Heap.blkOf, hb]
  cases news with
  | nil => exact absurd rfl hne
  | cons row rest =>
    simp only [appendAV, hx, Option.bind_some, req, if_pos hl, hblk]
    rw [if_pos ⟨trivial, by omega, hroom⟩]
    simp

theorem append_zero {H : Heap} {r g sz bytes : Nat} {x : AV} {rs : List Row} (hb : H[r]? = some (.rows g sz rs)) (hx : Ab.elems H x = some []) (hroom : rs.length * bytes ≤ roomB) :
    appendAV H sz bytes (.slice r g 0 rs.length) x = some (.slice r g 0 rs.length, H) := by
  have hblk : H.blkOf r g = some (sz, rs) := by simp [Heap.blkOf, hb]
  simp [appendAV, hx, req, hblk]
  exact hroom

theorem iaddr_s {H : Heap} {r g sz : Nat} {rs : List Row} {i n : Nat} {k : Int} {row : Row} (hb : H[r]? = some (.rows g sz rs)) (h0 : 0 ≤ k) (hk : k < (n : Int)) (h : rs[i + k.toNat]? = some row) (hl : row.length = sz) : iaddrAV H sz (.slice r g i n) k = some (.ptr r g (i + k.toNat) 0) := by
  simp [iaddrAV, Heap.row, hb, h, req, hl, h0, hk]

theorem load_s {H : Heap} {r g i j sz : Nat} {agg : Option Nat} {rs : List Row} {row : Row} {v : AV} (hb : H[r]? = some (.rows g sz rs)) (h : rs[i]? = some row) (hc : cut row j agg = some v) : loadAV H agg (.ptr r g i j) = some v := by
  simp [loadAV, Heap.row, hb, h, hc]

def rowsU8 (b : List UInt8) : List Row := b.map fun x => [.int .u8 x.toNat]

theorem rowsU8_plain (b : List UInt8) : Plain (rowsU8 b) := by
  intro row hr c hc
  simp only [rowsU8, List.mem_map] at hr
  obtain ⟨x, _, rfl⟩ := hr
  simp at hc
  subst hc
  exact ⟨rfl, .int⟩

theorem rowsU8_row (b : List UInt8) : ∀ row ∈ rowsU8 b, row.length = 1 := by
  intro row hr
  simp only [rowsU8, List.mem_map] at hr
  obtain ⟨x, _, rfl⟩ := hr
  rfl

@[simp] theorem rowsU8_len (b : List UInt8) : (rowsU8 b).length = b.length := by simp [rowsU8]
theorem rowsU8_append (a b : List UInt8) : rowsU8 (a ++ b) = rowsU8 a ++ rowsU8 b := by simp [rowsU8]
theorem rowsU8_get {b : List UInt8} {k : Nat} (h : k < b.length) : (rowsU8 b)[k]? = some [.int .u8 (b[k]).toNat] := by simp [rowsU8, h]

theorem bytesOf_rowsU8 : ∀ b : List UInt8, bytesOf (rowsU8 b) = some b
  | [] => rfl
  | x :: b => by
    have := bytesOf_rowsU8 b
    simp only [rowsU8, List.map_cons, bytesOf] at this ⊢
    rw [this]
    simp

end Go.Ab

/-
  Accumulators: slices that begin as nil or as the call's own, and grow by appends.
  Conditions: none.
-/
namespace Go.Ab

theorem W_app {H : Heap} {r g sz b : Nat} {rs news : List Row} {x : AV} {K : AV × Heap → Prop} (hb : H[r]? = some (.rows g sz rs)) (hx : elems H x = some news) (hl : ∀ row ∈ news, row.length = sz) (hroom : (rs.length + news.length) * b ≤ roomB)
    (k : ∀ g', K (.slice r g' 0 (rs.length + news.length), H.set r (.rows g' sz (rs ++ news)))) : W (appendAV H sz b (.slice r g 0 rs.length) x) K := by
  by_cases hne : news = []
  · subst hne
    refine ⟨_, append_zero hb hx (by simpa using hroom), ?_⟩
    have hlt := (List.getElem?_eq_some_iff.1 hb).1
    have hset : H.set r (.rows g sz rs) = H := by
      apply List.ext_getElem?
      intro i
      by_cases hk : r = i
      · subst hk; rw [List.getElem?_set_self hlt, hb]
      · rw [List.getElem?_set_ne hk]
    have := k g
    simpa [hset] using this
  · exact ⟨_, append_some hb hx hl hroom hne, k (g + 1)⟩

/-- A slice that is nil as long as it is empty, and lies behind H0 from then on. -/
def Acc1 (H0 : Heap) (sz : Nat) (l : List Row) (c : AV) (H : Heap) : Prop :=
  (l = [] ∧ c = .nils ∧ H = H0) ∨ ∃ g, c = .slice H0.length g 0 l.length ∧ H = H0 ++ [.rows g sz l]

theorem Acc1.nil {H0 : Heap} {sz : Nat} : Acc1 H0 sz [] .nils H0 := .inl ⟨rfl, rfl, rfl⟩

theorem Acc1.append {H0 H : Heap} {sz b : Nat} {l news : List Row} {c x : AV} (h : Acc1 H0 sz l c H) (hx : elems H x = some news) (hl : ∀ row ∈ news, row.length = sz) (hroom : (l.length + news.length) * b ≤ roomB) {K : AV × Heap → Prop}
    (k : ∀ c' H', Acc1 H0 sz (l ++ news) c' H' → K (c', H')) : W (appendAV H sz b c x) K := by
  rcases h with ⟨rfl, rfl, rfl⟩ | ⟨g, rfl, rfl⟩
  · cases news with
    | nil => exact ⟨_, append_nil0 hx, k _ _ (.inl ⟨rfl, rfl, rfl⟩)⟩
    | cons row rest => exact ⟨_, append_nil hx hl (by simpa using hroom), k _ _ (.inr ⟨0, by simp, by simp⟩)⟩
  · refine W_app (by simp) hx hl hroom fun g' => k _ _ (.inr ⟨g', by simp, by simp⟩)

theorem Acc1.grown {H0 H : Heap} {sz : Nat} {l : List Row} {c : AV} (h : Acc1 H0 sz l c H) : ∃ N, H = H0 ++ N := by
  rcases h with ⟨rfl, rfl, rfl⟩ | ⟨g, rfl, rfl⟩
  · exact ⟨[], (List.append_nil _).symm⟩
  · exact ⟨_, rfl⟩

theorem Acc1.len {H0 H : Heap} {sz : Nat} {l : List Row} {c : AV} (h : Acc1 H0 sz l c H) : lenAV H 1 c = some l.length := by
  rcases h with ⟨rfl, rfl, rfl⟩ | ⟨g, rfl, rfl⟩ <;> rfl

theorem Acc1.elems {H0 H : Heap} {sz : Nat} {l : List Row} {c : AV} (h : Acc1 H0 sz l c H) : elems H c = some l := by
  rcases h with ⟨rfl, rfl, rfl⟩ | ⟨g, rfl, rfl⟩
  · rfl
  · simp [Ab.elems, Heap.rowsOf, req]

/-- The index of an element. -/
theorem Acc1.iaddr {H0 H : Heap} {sz : Nat} {l : List Row} {c : AV} (h : Acc1 H0 sz l c H) {k : Int} {row : Row} (h0 : 0 ≤ k) (hr : l[k.toNat]? = some row) (hl : row.length = sz) : ∃ p, iaddrAV H sz c k = some p ∧ ∀ j g v, cut row j g = some v → ∀ q, faddrAV j p = some q → loadAV H g q = some v := by
  have hlt := (List.getElem?_eq_some_iff.1 hr).1
  rcases h with ⟨rfl, rfl, rfl⟩ | ⟨g, rfl, rfl⟩
  · simp at hr
  · refine ⟨_, iaddr_s (sz := sz) (g := g) (rs := l) (row := row) (by simp) h0 (by omega) (by simpa using hr) hl, fun j gg v hc q hq => ?_⟩
    simp [faddrAV] at hq
    subst hq
    exact load_s (sz := sz) (rs := l) (row := row) (by simp) (by simpa using hr) hc

/-- What is left of it as a plain immutable slice. -/
theorem Acc1.freeze {H0 H : Heap} {sz : Nat} {l : List Row} {c : AV} (h : Acc1 H0 sz l c H) (hs : ∀ row ∈ l, row.length = sz) (hp : Plain l) : CV 0 H [] c (.islice l) := by
  rcases h with ⟨rfl, rfl, rfl⟩ | ⟨g, rfl, rfl⟩
  · exact .nil0
  · have : Own (H0 ++ [.rows g sz l]) H0.length sz (.slice H0.length g 0 l.length) l := ⟨g, 0, l.length, l, rfl, by simp, by simp, by simp, hs⟩
    exact this.freeze hp

/-- Plain lists of values that hold nothing of the call's own. -/
theorem plain_of {l : List Row} (h : ∀ row ∈ l, ∀ c ∈ row, c.sc = true ∧ Cl 0 c) : Plain l := h

theorem fin_acc {H0 H : Heap} {sz : Nat} {l : List Row} {c : AV} (h : Acc1 H0 sz l c H) (hs : ∀ row ∈ l, row.length = sz) (hp : Plain l) : Fin [] c H (.islice l) [] := fin_drop (h.freeze hs hp)

/-! ### lists of values, one by one -/
def CVs (n : Nat) (J : Heap) (ks : List Nat) (cs cs' : List AV) : Prop := cs'.length = cs.length ∧ ∀ (i : Nat) c c', cs[i]? = some c → cs'[i]? = some c' → CV n J ks c c'
def Cls (n : Nat) (cs : List AV) : Prop := ∀ (i : Nat) c, cs[i]? = some c → Cl n c

section
variable {n : Nat} {J : Heap} {ks : List Nat} {c c' : AV} {cs cs' : List AV}
theorem CVs.nil : CVs n J ks [] [] := ⟨rfl, by simp⟩
theorem CVs.cons (h : CV n J ks c c') (hs : CVs n J ks cs cs') : CVs n J ks (c :: cs) (c' :: cs') := by
  refine ⟨by simp [hs.1], fun i a b h1 h2 => ?_⟩
  cases i with
  | zero => simp at h1 h2; subst h1 h2; exact h
  | succ i => exact hs.2 i a b (by simpa using h1) (by simpa using h2)
theorem CVs.agg (h : CVs n J ks cs cs') : CV n J ks (.agg cs) (.agg cs') := .agg h.1 h.2
theorem CVs.tup (h : CVs n J ks cs cs') : CV n J ks (.tup cs) (.tup cs') := .tup h.1 h.2
theorem Cls.nil : Cls n [] := by intro i c h; simp at h
theorem Cls.cons (h : Cl n c) (hs : Cls n cs) : Cls n (c :: cs) := by
  intro i a h1
  cases i with
  | zero => simp at h1; subst h1; exact h
  | succ i => exact hs i a (by simpa using h1)
theorem Cls.agg (h : Cls n cs) : Cl n (.agg cs) := .agg h
theorem Cls.tup (h : Cls n cs) : Cl n (.tup cs) := .tup h
end

/-- A guarded call of a function that leaves the heap as it was. -/
theorem gdG_call {C : CallR} {p : Prop} {f : Nat} {args : List AV} {H : Heap} {v : AV} {k : AV → Heap → Prop} (h : p → C f args H v H) (hk : k (gsel p v) H) : gdG p (fun k => callK C f args H k) H k :=
  gdG_of v (fun hp _ hkk => ⟨v, H, h hp, hkk⟩) hk

theorem own_bytes {H : Heap} {r g : Nat} {b : List UInt8} (hr : H[r]? = some (.rows g 1 (rowsU8 b))) : Own H r 1 (.slice r g 0 b.length) (rowsU8 b) := ⟨g, 0, b.length, rowsU8 b, rfl, hr, by simp, by simp [List.take_of_length_le], rowsU8_row b⟩

/-- An append of bytes to nil. -/
theorem W_app_nil {H : Heap} {b : List UInt8} {K : AV × Heap → Prop} {x : AV} (hx : elems H x = some (rowsU8 b)) (hroom : b.length ≤ roomB) (k : ∀ c H', Acc1 H 1 (rowsU8 b) c H' → K (c, H')) : W (appendAV H 1 1 .nils x) K :=
  Acc1.nil.append hx (rowsU8_row b) (by simpa using hroom) (by simpa using k)

/-- A byte, as a number. -/
def gb (b : List UInt8) (i : Nat) : Nat := (b.getD i 0).toNat
theorem gb_lt (b : List UInt8) (i : Nat) : gb b i < 256 := (b.getD i 0).toNat_lt
@[simp] theorem rowsU8_at {b : List UInt8} {i : Nat} (h : i < (rowsU8 b).length) : (rowsU8 b)[i] = [.int .u8 (gb b i : Nat)] := by
  simp at h
  simp [rowsU8, gb, h]

theorem get_u8 {b : List UInt8} {i : Nat} (h : i < b.length) : (rowsU8 b)[i]? = some [.int .u8 (b.getD i 0).toNat] := by
  simp [rowsU8, h]

theorem iaddr_is {H : Heap} {sz : Nat} {rows : List Row} {n : Int} : iaddrAV H sz (.islice rows) n = req (0 ≤ n ∧ n < (rows.length : Int)) (rows[n.toNat]?.bind fun row => req (row.length = sz) (some (.iptr rows n.toNat 0))) := rfl
theorem iaddr_sl {H : Heap} {sz r g i len : Nat} {n : Int} : iaddrAV H sz (.slice r g i len) n = req (0 ≤ n ∧ n < (len : Int)) ((H.row r g (i + n.toNat)).bind fun row => req (row.length = sz) (some (.ptr r g (i + n.toNat) 0))) := rfl

theorem fin_bool {H : Heap} {x y : Bool} (h : x = y) : Fin [] (.bool x) H (.bool y) [] := by subst h; exact fin_drop (.refl .bool)
theorem fin_int {H : Heap} {k : IntKind} {x y : Int} (h : x = y) : Fin [] (.int k x) H (.int k y) [] := by subst h; exact fin_drop (.refl .int)

theorem fin_bool_tmp {H J : Heap} {x y : Bool} (h : x = y) : Fin H (.bool x) (H ++ J) (.bool y) H := by subst h; exact fin_tmp rfl (fun r b h => .inl h) (.refl .bool)
theorem not_u8 {x : Nat} (h : x < 256) : wrp .u8 ((toU .u8 (x : Int) ^^^ mask .u8 : Nat) : Int) = 255 - (x : Int) := by
  have e : toU .u8 (x : Int) = x := by rw [toUN_u8]; exact Nat.mod_eq_of_lt h
  rw [e]
  have h2 : ∀ x : _root_.Fin 256, x.val ^^^ 255 = 255 - x.val := by decide +kernel
  have h3 := h2 ⟨x, h⟩
  simp only at h3
  rw [show mask .u8 = 255 from rfl, h3, wrp_u8 (by omega)]
  omega

/-- A copy over a whole slice of the call's own. -/
theorem copy_all {H : Heap} {r g sz n : Nat} {rs news : List Row} {x : AV} (hb : H[r]? = some (.rows g sz rs)) (hx : Ab.elems H x = some news) (hl : ∀ row ∈ news, row.length = sz) (hn : news.length = n) (hr : rs.length = n) :
    copyAV H sz (.slice r g 0 n) x = some (.int .i64 (n : Nat), H.set r (.rows g sz news)) := by
  have hblk : H.blkOf r g = some (sz, rs) := blkOf_of hb
  simp only [copyAV, hx, Option.bind_some, req, if_pos hl, hblk]
  rw [if_pos ⟨trivial, by omega⟩]
  have e : min news.length n = n := by omega
  rw [e, List.take_zero, List.nil_append, List.take_of_length_le (by omega), Nat.zero_add, List.drop_of_length_le (by omega), List.append_nil]

/-! ### the heap told anew, some blocks kept -/
theorem bcv_plain {n : Nat} {J : Heap} {ks : List Nat} {g s : Nat} {rs : List Row} (hl : ∀ row ∈ rs, row.length = s) (hp : Plain rs) : BCV n J ks (.rows g s rs) (.rows g s rs) :=
  .rows rfl hl fun i row j c h1 h2 => ⟨⟨row, c, h1, h2, .refl ((hp row (List.mem_of_getElem? h1) c (List.mem_of_getElem? h2)).2.mono (Nat.zero_le _))⟩, (hp row (List.mem_of_getElem? h1) c (List.mem_of_getElem? h2)).1⟩

theorem conv_pick1 {J : Heap} {σ σ' : Env} {k g s : Nat} {rs : List Row} (hk : J[k]? = some (.rows g s rs)) (hl : ∀ row ∈ rs, row.length = s) (hp : Plain rs) (hσ : ∀ p ∈ σ', CV 0 J [k] (σ.get p.1) p.2) : Conv [] σ J σ' [.rows g s rs] := by
  refine Conv.of (H0 := []) (Hm := []) (J := J) (J' := [.rows g s rs]) (ks := [k]) ⟨rfl, by simp, by simp, rfl, fun i k' b' h1 h2 => .inr ?_⟩ (env_cv hσ)
  match i with
  | 0 => simp at h1 h2; subst h1 h2; exact ⟨_, hk, bcv_plain hl hp⟩
  | i + 1 => simp at h1

theorem conv_pick2 {J : Heap} {σ σ' : Env} {k g s k2 g2 s2 : Nat} {rs rs2 : List Row} (hk : J[k]? = some (.rows g s rs)) (hl : ∀ row ∈ rs, row.length = s) (hp : Plain rs) (hk2 : J[k2]? = some (.rows g2 s2 rs2)) (hl2 : ∀ row ∈ rs2, row.length = s2) (hp2 : Plain rs2) (hne : k ≠ k2)
    (hσ : ∀ p ∈ σ', CV 0 J [k, k2] (σ.get p.1) p.2) : Conv [] σ J σ' [.rows g s rs, .rows g2 s2 rs2] := by
  refine Conv.of (H0 := []) (Hm := []) (J := J) (J' := [.rows g s rs, .rows g2 s2 rs2]) (ks := [k, k2]) ⟨rfl, by simp, by simpa using hne, rfl, fun i k' b' h1 h2 => .inr ?_⟩ (env_cv hσ)
  match i with
  | 0 => simp at h1 h2; subst h1 h2; exact ⟨_, hk, bcv_plain hl hp⟩
  | 1 => simp at h1 h2; subst h1 h2; exact ⟨_, hk2, bcv_plain hl2 hp2⟩
  | i + 2 => simp at h1

theorem cv_slice {J : Heap} {ks : List Nat} {i k g a m : Nat} (h : ks[i]? = some k) : CV 0 J ks (.slice k g a m) (.slice i g a m) := by
  have := CV.slice (n := 0) (J := J) (g := g) (a := a) (m := m) h
  simpa using this
theorem cv_ptr {J : Heap} {ks : List Nat} {i k g a m : Nat} (h : ks[i]? = some k) : CV 0 J ks (.ptr k g a m) (.ptr i g a m) := by
  have := CV.ptr (n := 0) (J := J) (g := g) (a := a) (b := m) h
  simpa using this

/-- A slice that is nil as long as it is empty, wherever it lies. -/
def AccL (sz : Nat) (l : List Row) (c : AV) (H : Heap) : Prop := (l = [] ∧ c = .nils) ∨ ∃ r g, c = .slice r g 0 l.length ∧ H[r]? = some (.rows g sz l)

theorem AccL.freeze {H : Heap} {sz : Nat} {l : List Row} {c : AV} (h : AccL sz l c H) (hs : ∀ row ∈ l, row.length = sz) (hp : Plain l) : CV 0 H [] c (.islice l) := by
  rcases h with ⟨rfl, rfl⟩ | ⟨r, g, rfl, hr⟩
  · exact .nil0
  · have : Own H r sz (.slice r g 0 l.length) l := ⟨g, 0, l.length, l, rfl, hr, by simp, by simp, hs⟩
    exact this.freeze hp
theorem AccL.len {H : Heap} {sz : Nat} {l : List Row} {c : AV} (h : AccL sz l c H) : lenAV H 1 c = some l.length := by
  rcases h with ⟨rfl, rfl⟩ | ⟨r, g, rfl, hr⟩ <;> rfl

end Go.Ab
