/-
  Contracts of functions, the calculus over code, and that both speak of the model's runs.
  Conditions: none.
-/
import Derived.Test.YthpmmdlhoaonaaaAbOp
import Derived.Tactics
import Derived.Scope
import Derived.Orders
namespace Go.Ab

def Callable (P : Program) (f : Nat) : Prop := ∃ fn, P.funcs[f]? = some fn ∧ (fn.name == "runtime.NumGoroutine") = false ∧ fn.body.isNone = false

/-- What a call comes to, from these arguments in this heap: this value, this heap. -/
def Spec (P : Program) : CallR := fun f args H v H' => Callable P f ∧ ∀ X w vs, HRel X H w → VRels X w args vs →
  Calls P f vs.toArray w (fun e w' => ∃ v' X', e = .returned v' ∧ VRel X' w' v v' ∧ HRel X' H' w' ∧ Stp X w X' w')

/-- The same state, told otherwise: variables forgotten, blocks of this call's own given up or made immutable. H0 is the heap that the call found. -/
def Conv (H0 : Heap) (σ : Env) (H : Heap) (σ' : Env) (H' : Heap) : Prop :=
  ∀ X0 w0 X w tmps, HRel X0 H0 w0 → X0.top = H0.length → Stp X0 w0 X w → HRel X H w → FRel X w σ tmps →
    ∃ X', HRel X' H' w ∧ FRel X' w σ' tmps ∧ Stp X0 w0 X' w

def wpC (C : CallR) (base : Heap) : MCode → Env → Heap → (Ex → Env → Heap → Prop) → Prop
  | .skip, σ, H, Q => Q .normal σ H
  | .region ops keep, σ, H, Q => wpOps C ops σ H fun σ H => Q .normal (σ.keep keep) H
  | .dregion u t fl keep, σ, H, Q => wpU C u σ H fun σ H => wpT C fl t σ H fun σ H => Q .normal (σ.keep keep) H
  | .seq a b, σ, H, Q => wpC C base a σ H fun e σ H => match e with
    | .normal => wpC C base b σ H Q
    | e => Q e σ H
  | .cond c A B, σ, H, Q => ∃ b, c.ev σ = .bool b ∧ (b = true → wpC C base A σ H Q) ∧ (b = false → wpC C base B σ H Q)
  | .block id body, σ, H, Q => wpC C base body σ H fun e σ H => match e with
    | .exit i => if i = id then Q .normal σ H else Q (.exit i) σ H
    | e => Q e σ H
  | .loop keep body, σ, H, Q => ∃ I : Nat → Env → Heap → Prop, (∃ n, I n (σ.keep keep) H) ∧ ∀ n σ H, I n σ H → wpC C base body σ H fun e σ' H' => match e with
    | .normal => ∃ m, m < n ∧ I m (σ'.keep keep) H'
    | e => Q e σ' H'
  | .scope body, σ, H, Q => wpC C base body σ H Q
  | .exit id, σ, H, Q => Q (.exit id) σ H
  | .ret, σ, H, Q => Q .ret σ H
  | .conv, σ, H, Q => ∃ σ' H', Conv base σ H σ' H' ∧ Q .normal σ' H'

/-! ### the translation of code -/
def dstOk (N : Nat) : Option Nat → Bool
  | some d => decide (d < N)
  | none => true

def isCallOp : Op → Bool
  | .call { callee := .value _, .. } => true
  | _ => false

def cmpOper (P : Program) (N : Nat) (ops : Array Oper) (o : Oper) : Option MOper :=
  (cmpOpF P ops o).bind fun m =>
    if dstOk N o.dst = true ∧ m.isCall = isCallOp o.op then
      let rs := o.op.operands.toList.filterMap fun | .tmp t => some t | _ => none
      match o.guard with
      | none => some ⟨m, none, o.dst, rs⟩
      | some (j, pol) => ((ops[j]?).bind (·.dst)).bind fun t => some ⟨m, some (t, pol), o.dst, rs⟩
    else none

def cmpOpers (P : Program) (N : Nat) (ops : Array Oper) : List Oper → Option (List MOper)
  | [] => some []
  | o :: os => (cmpOper P N ops o).bind fun m => (cmpOpers P N ops os).bind fun ms => some (m :: ms)

/-- What is told of a region or a loop: the slots that live on; how many operations have no order; whether the state is told anew ahead of it. -/
structure RH where
  keep : List Nat
  u : Nat
  conv : Bool
  /-- The operations' new order, where it is told. -/
  perm : List Nat

theorem get_keep (ks : List Nat) (σ : Env) (t : Nat) : (σ.keep ks).get t = if t ∈ ks then σ.get t else .undef := by
  unfold Env.keep
  induction ks with
  | nil => simp [Env.get]
  | cons k ks ih =>
    simp only [List.map_cons, Env.get, ih, List.mem_cons]
    by_cases h : k = t
    · simp [h]
    · simp [h, Ne.symm h]

theorem FRel.keep {X : Ctx} {w : World} {σ : Env} {tmps : Array Value} (h : FRel X w σ tmps) (ks : List Nat) : FRel X w (σ.keep ks) tmps := by
  intro t
  rw [get_keep]
  split
  · exact h t
  · exact .undef

theorem FRel.step {X X' : Ctx} {w w' : World} {H : Heap} (hH : HRel X H w) (hs : Stp X w X' w') {σ : Env} {tmps : Array Value} (h : FRel X w σ tmps) : FRel X' w' σ tmps := fun t => (h t).step hH hs

/-- The frame with its size and no deferred calls. -/
structure ARel (N : Nat) (X : Ctx) (w : World) (σ : Env) (a : Act) : Prop where
  f : FRel X w σ a.tmps
  size : a.tmps.size = N
  defers : a.defers = []

theorem ARel.put {N : Nat} {X : Ctx} {w : World} {σ : Env} {a : Act} (h : ARel N X w σ a) {dst : Option Nat} (hd : dstOk N dst = true) {c : AV} {v : Value} (hv : VRel X w c v) :
    ARel N X w (σ.put dst c) (a.put dst v) := by
  cases dst with
  | none => exact h
  | some d =>
    have hd' : d < N := by simpa [dstOk] using hd
    refine ⟨fun t => ?_, by simp [Act.put, h.size], by simp [Act.put, h.defers]⟩
    simp only [Env.put, Env.get, Act.put]
    by_cases e : d = t
    · subst e
      rw [if_pos rfl]
      simp [Array.getD_eq_getD_getElem?, h.size, hd']
      exact hv
    · rw [if_neg e]
      have := h.f t
      simpa [Array.getD_eq_getD_getElem?, Array.getElem?_setIfInBounds_ne e] using this

/-- The exits of code, side by side. -/
def exOf : Exit → Ex → Prop
  | .normal, .normal => True
  | .exit i, .exit j => i = j
  | .ret, .ret => True
  | _, _ => False

/-- What code comes to in the model, where it comes to Q in the abstract. -/
def Post (N : Nat) (X0 : Ctx) (w0 : World) (Q : Ex → Env → Heap → Prop) : Exit → Act → World → Prop := fun x a w =>
  ∃ e σ H X, exOf x e ∧ Q e σ H ∧ ARel N X w σ a ∧ HRel X H w ∧ Stp X0 w0 X w

theorem callFunc_run {P : Program} {f : Nat} (h : Callable P f) (args : Array Value) (w : World) : (callFunc f args).run P w = .ok (.enter f args) w := by
  obtain ⟨fn, h1, h2, h3⟩ := h
  have h2' : fn.name ≠ "runtime.NumGoroutine" := by simpa using h2
  have h3' : fn.body ≠ none := by intro e; simp [e] at h3
  simp [callFunc, h1, h2', h3']

section
variable {P : Program} {C : CallR} {N : Nat}

/-- One operation, a call or not. -/
theorem oper_sound (hC : ∀ f args H v H', C f args H v H' → Spec P f args H v H') {ops : Array Oper} {o : Oper} {m : MOper} (hm : cmpOper P N ops o = some m) {X : Ctx} {w : World} {a : Act} {σ σr : Env} {H : Heap} (hH : HRel X H w) (hA : ARel N X w σ a) (hr : FRel X w σr a.tmps)
    {K : AV → Heap → Prop} (hK : wpOp C σr H m.op K) {R : Act → World → Prop} {Q : Exit → Act → World → Prop}
    (hR : ∀ v H' X' w' v', K v H' → VRel X' w' v v' → HRel X' H' w' → Stp X w X' w' → ARel N X' w' (σ.put o.dst v) (a.put o.dst v') → R (a.put o.dst v') w') : o.wp P a w R Q := by
  unfold cmpOper at hm
  simp only [Option.bind_eq_some_iff] at hm
  obtain ⟨mo, hmo, hm⟩ := hm
  split at hm
  case isFalse => cases hm
  rename_i hdc
  obtain ⟨hd, hcc⟩ := hdc
  have hop : m.op = mo := by
    split at hm
    · cases hm; rfl
    · simp only [Option.bind_eq_some_iff, Option.some.injEq] at hm
      obtain ⟨t, _, rfl⟩ := hm
      rfl
  rw [hop] at hK
  unfold Oper.wp
  by_cases hcall : mo.isCall = false
  · have hW : W (stepOp σr H mo) fun p => K p.1 p.2 := by
      cases mo <;> first | exact hK | (simp [MOp.isCall] at hcall)
    obtain ⟨⟨c, H'⟩, h1, h2⟩ := hW
    obtain ⟨n, w', X', k1, k2, k3, k4⟩ := op_okF (o := o) hH hr hmo hcall h1
    rw [k1]
    rcases k2 with ⟨v, rfl, hv⟩ | ⟨rfl, rfl⟩
    · rw [Oper.upon_value]
      exact hR _ _ _ _ _ h2 hv k3 k4 (ARel.put ⟨hA.f.step hH k4, hA.size, hA.defers⟩ hd hv)
    · rw [Oper.upon_skip]
      exact hR _ _ _ _ _ h2 .undef k3 k4 (ARel.put ⟨hA.f.step hH k4, hA.size, hA.defers⟩ hd .undef)
  · have enter : ∀ f args vs, (∃ v H', C f args H v H' ∧ K v H') → VRels X w args vs → (execOp a.eval o).run P w = (callFunc f vs.toArray).run P w → o.upon P a R Q ((execOp a.eval o).run P w) := by
      rintro f args vs ⟨v, H', h1, h2⟩ hv he
      obtain ⟨hcl, hsp⟩ := hC _ _ _ _ _ h1
      rw [he, callFunc_run hcl, Oper.upon_enter]
      refine Calls.mono (hsp X w vs hH hv) ?_
      rintro e w' ⟨v', X', rfl, k2, k3, k4⟩
      exact hR _ _ _ _ _ h2 k2 k3 k4 (ARel.put ⟨hA.f.step hH k4, hA.size, hA.defers⟩ hd k2)
    have hco : isCallOp o.op = true := by rw [← hcc]; simpa using hcall
    unfold isCallOp at hco
    split at hco
    case h_2 => cases hco
    rename_i f args ts ho
    have hmo := cmpOpF_call hmo (fun t n ps e => by rw [ho] at e; cases e)
    cases f with
    | const v => rw [ho] at hmo; simp [cmpOp] at hmo
    | global g => rw [ho] at hmo; simp [cmpOp] at hmo
    | func f =>
      rw [ho] at hmo
      simp only [cmpOp, Option.bind_eq_some_iff, Option.some.injEq] at hmo
      obtain ⟨xs, h1, rfl⟩ := hmo
      refine enter f _ (args.toList.map a.eval) hK (opds_ok hr h1) ?_
      unfold execOp
      have e1 : (args.toList.map a.eval).toArray = args.map a.eval := by apply Array.ext'; simp
      simp only [ho, resolve, Act.eval, Deferred.ofValue, Sem.run_bind, Sem.run_pure, Result.andThen_ok, invoke, Array.empty_append, Array.append_empty]
      rw [e1]
    | tmp t =>
      rw [ho] at hmo
      simp only [cmpOp, Option.bind_eq_some_iff, Option.some.injEq] at hmo
      obtain ⟨xs, h1, rfl⟩ := hmo
      simp only [wpOp, Opd.ev] at hK
      have ht := hr t
      split at hK
      case h_2 => exact hK.elim
      rename_i f first cap hg
      rw [hg] at ht
      generalize hq : a.tmps.getD t undef = vt at ht
      cases ht with
      | func h1' h2' h3' h4' =>
        rename_i us vs
        refine enter f _ (us ++ args.toList.map a.eval ++ vs) hK (VRels.append (VRels.append ⟨h1', h3'⟩ (opds_ok hr h1)) ⟨h2', h4'⟩) ?_
        unfold execOp
        simp only [ho, resolve, Act.eval, hq, Deferred.ofValue, Sem.run_bind, Sem.run_pure, Result.andThen_ok, invoke]
        congr 2
        apply Array.ext'
        simp


theorem cmpOper_guard {ops : Array Oper} {o : Oper} {m : MOper} (hm : cmpOper P N ops o = some m) :
    m.dst = o.dst ∧ dstOk N o.dst = true ∧ ((m.guard = none ∧ o.guard = none) ∨ ∃ t j pol, m.guard = some (t, pol) ∧ o.guard = some (j, pol) ∧ (ops[j]?).bind (·.dst) = some t) := by
  unfold cmpOper at hm
  simp only [Option.bind_eq_some_iff] at hm
  obtain ⟨mo, hmo, hm⟩ := hm
  split at hm
  case isFalse => cases hm
  rename_i hdc
  split at hm
  · rename_i hg
    cases hm
    exact ⟨rfl, hdc.1, .inl ⟨rfl, hg⟩⟩
  · rename_i j pol hg
    simp only [Option.bind_eq_some_iff, Option.some.injEq] at hm
    obtain ⟨t, ⟨q, h1, h2⟩, rfl⟩ := hm
    exact ⟨rfl, hdc.1, .inr ⟨t, j, pol, rfl, hg, by simp [h1, h2]⟩⟩

theorem yielded_ok {ops : Array Oper} {tmps : Array Value} {j t : Nat} (hj : (ops[j]?).bind (·.dst) = some t) {b : Bool} (hb : tmps.getD t undef = .bool b) : yielded ops tmps j = some b := by
  unfold yielded
  rw [hj]
  have : tmps[t]? = some (.bool b) := by
    rw [Array.getD_eq_getD_getElem?] at hb
    cases h : tmps[t]? with
    | none => rw [h] at hb; simp [undef] at hb
    | some v => rw [h] at hb; simp at hb; rw [hb]
  simp [this]

theorem yielded_none {ops : Array Oper} {tmps : Array Value} {j t : Nat} (hj : (ops[j]?).bind (·.dst) = some t) (hb : tmps.getD t undef = .tuple #[]) : yielded ops tmps j = none := by
  unfold yielded
  rw [hj]
  rw [Array.getD_eq_getD_getElem?] at hb
  cases h : tmps[t]? with
  | none => simp [h]
  | some v => rw [h] at hb; simp at hb; subst hb; simp [h]

theorem tup0_of_rel {X : Ctx} {w : World} {v : Value} (h : VRel X w (.tup []) v) : v = .tuple #[] := by
  cases h with
  | @tup _ vs h1 h2 =>
    cases vs with
    | nil => rfl
    | cons a l => simp at h1

theorem tup0_rel {X : Ctx} {w : World} : VRel X w (.tup []) undef := .tup (vs := []) rfl (by simp)

theorem bool_of_rel {X : Ctx} {w : World} {b : Bool} {v : Value} (h : VRel X w (.bool b) v) : v = .bool b := by cases h; rfl

theorem list_sound (hC : ∀ f args H v H', C f args H v H' → Spec P f args H v H') {ops : Array Oper} {X0 : Ctx} {w0 : World} {Q : Exit → Act → World → Prop} : ∀ {l : List Oper} {ms : List MOper}, cmpOpers P N ops l = some ms → ∀ {σ : Env} {H : Heap} {X : Ctx} {w : World} {a : Act}, Stp X0 w0 X w → HRel X H w → ARel N X w σ a →
    ∀ {K : Env → Heap → Prop}, wpOps C ms σ H K → (∀ σ H X w a, K σ H → Stp X0 w0 X w → HRel X H w → ARel N X w σ a → Q .normal a w) → wpList P ops Q l a w
  | [], ms, hc, σ, H, X, w, a, hs, hH, hA, K, hK, hQ => by
    simp only [cmpOpers, Option.some.injEq] at hc
    subst hc
    exact hQ σ H X w a hK hs hH hA
  | o :: l, ms, hc, σ, H, X, w, a, hs, hH, hA, K, hK, hQ => by
    simp only [cmpOpers, Option.bind_eq_some_iff, Option.some.injEq] at hc
    obtain ⟨m, h1, ms', h2, rfl⟩ := hc
    obtain ⟨e1, e2, hg⟩ := cmpOper_guard h1
    have run : wpOp C σ H m.op (fun v H' => wpOps C ms' (σ.put m.dst v) H' K) → o.wp P a w (wpList P ops Q l) Q := by
      intro hw
      refine oper_sound hC h1 hH hA hA.f hw ?_
      intro v H' X' w' v' hv _ hH' hs' hA'
      rw [e1] at hv
      exact list_sound hC h2 (hs.trans hs') hH' hA' hv hQ
    unfold wpList
    rcases hg with ⟨g1, g2⟩ | ⟨t, j, pol, g1, g2, g3⟩
    · simp only [wpOps, g1] at hK
      rw [if_pos (by simp [Region.wanted, g2])]
      exact .inl (run hK)
    · simp only [wpOps, g1] at hK
      have hskip : wpOps C ms' (σ.put m.dst (.tup [])) H K → wpList P ops Q l (a.put o.dst undef) w := by
        intro this
        rw [e1] at this
        exact list_sound hC h2 hs hH (hA.put e2 tup0_rel) this hQ
      rcases hK with ⟨hb, k2⟩ | ⟨b, hb, k1, k2⟩
      · have hy := yielded_none g3 (tup0_of_rel (hb ▸ hA.f t))
        rw [if_neg (by simp [Region.wanted, g2, hy])]
        exact hskip k2
      · have hy := yielded_ok g3 (bool_of_rel (hb ▸ hA.f t))
        by_cases hbp : b = pol
        · rw [if_pos (by simp [Region.wanted, g2, hy, hbp])]
          exact .inl (run (k1 hbp))
        · rw [if_neg (by simp [Region.wanted, g2, hy, hbp])]
          exact hskip (k2 (by cases b <;> cases pol <;> simp_all))

end
end Go.Ab
