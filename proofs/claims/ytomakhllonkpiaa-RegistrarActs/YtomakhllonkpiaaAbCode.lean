/-
  Contracts of functions, the calculus over code, and that both speak of the model's runs.
  Conditions: none.
-/
import Derived.Test.YtomakhllonkpiaaAbOp
import Derived.Tactics
import Derived.Scope
import Derived.Orders
import Derived.OrdersIn
import Derived.TacticsIn
import Derived.OwnWalkIn
namespace Go.Ab

def Callable (P : Program) (f : Nat) : Prop := ∃ fn, P.funcs[f]? = some fn ∧ (fn.name == "runtime.NumGoroutine") = false ∧ fn.body.isNone = false

/-- What a call comes to, from these arguments in this heap: this value, this heap. -/
def Spec (P : Program) : CallR := fun f args H v H' => Callable P f ∧ ∀ X w vs, HRel X H w → VRels X w args vs →
  Calls P f vs.toArray w (fun e w' => ∃ v' X', e = .returned v' ∧ VRel X' w' v v' ∧ HRel X' H' w' ∧ Stp X w X' w')

/-- The same state, told otherwise: variables forgotten, blocks of this call's own given up or made immutable. H0 is the heap that the call found. -/
def Conv (H0 : Heap) (σ : Env) (H : Heap) (σ' : Env) (H' : Heap) : Prop :=
  ∀ X0 w0 X w tmps, HRel X0 H0 w0 → X0.top = H0.length → Stp X0 w0 X w → HRel X H w → FRel X w σ tmps →
    ∃ X', HRel X' H' w ∧ FRel X' w σ' tmps ∧ Stp X0 w0 X' w ∧ ∀ b, X'.owned b → X.owned b

def codeOf : Ex → Option Code
  | .normal => none
  | .exit i => some (.exit i)
  | .ret => some .ret

/-- The record of a loop over an iterator, with this state and this jump pending. -/
def lrecS (σ0 : Env) (L : Loop) (s : LoopState) (p : Option Code) : ABlk := .lrec σ0 { L with state := s, pending := p }

def putAll (σ : Env) : List Nat → List AV → Env
  | t :: ts, v :: vs => putAll (σ.put (some t) v) ts vs
  | _, _ => σ

/-- The contracts within an iterator: those outside, and the rounds of the loop. -/
def yieldC (C : CallR) (r : Nat) (Y : List AV → Heap → AV → Heap → Prop) : CallR := fun f args H v H' =>
  match f, args with
  | 0, .yld r' :: as => r' = r ∧ Y as H v H'
  | f, args => C f args H v H'

def wpC (C : CallR) (base : Heap) : MCode → Env → Heap → (Ex → Env → Heap → Prop) → Prop
  | .skip, σ, H, Q => Q .normal σ H
  | .region ops keep, σ, H, Q => wpOps C ops σ H fun σ H => Q .normal (σ.keep keep) H
  | .dregion u t fl keep, σ, H, Q => wpU C u σ H fun σ H => wpT C fl t σ H fun σ H => Q .normal (σ.keep keep) H
  | .seq a b, σ, H, Q => wpC C base a σ H fun e σ H => match e with
    | .normal => wpC C base b σ H Q
    | e => Q e σ H
  | .cond c A B, σ, H, Q => ∃ b, c.ev σ = .bool b ∧ (b = true → wpC C base A σ H Q) ∧ (b = false → wpC C base B σ H Q)
  | .block id body, σ, H, Q => wpC C base body σ H fun e σ H => match e with
    | .exit i => if i = id then Q .normal σ H else Q (.exit i) σ H
    | e => Q e σ H
  | .loop keep body, σ, H, Q => ∃ I : Nat → Env → Heap → Prop, (∃ n, I n (σ.keep keep) H) ∧ ∀ n σ H, I n σ H → wpC C base body σ H fun e σ' H' => match e with
    | .normal => ∃ m, m < n ∧ I m (σ'.keep keep) H'
    | e => Q e σ' H'
  | .scope body, σ, H, Q => wpC C base body σ H Q
  | .exit id, σ, H, Q => Q (.exit id) σ H
  | .ret, σ, H, Q => Q .ret σ H
  | .conv, σ, H, Q => ∃ σ' H', Conv base σ H σ' H' ∧ Q .normal σ' H'
  | .rangef x ps as bd g np it keep, σ, H, Q => ∃ first cap, x.ev σ = .func g first cap ∧ (first ++ [AV.undef] ++ cap).length ≤ np ∧ ∀ L : Loop,
      wpC (yieldC C H.length fun args H1 v H2 => args.length = ps.length ∧ H1[H.length]? = some (lrecS (σ.keep keep) L .ready none) ∧
          wpC C H1 as (putAll (σ.keep keep) ps args) H1 fun e σ1 Ha => e = .normal ∧ Ha[H.length]? = some (lrecS (σ.keep keep) L .ready none) ∧
            wpC C H1 bd σ1 (Ha.set H.length (lrecS (σ.keep keep) L .busy none)) fun e2 _ Hb => Hb[H.length]? = some (lrecS (σ.keep keep) L .busy none) ∧
              v = .bool (decide (e2 = .normal)) ∧ H2 = Hb.set H.length (lrecS (σ.keep keep) L (if e2 = .normal then .ready else .done) (codeOf e2)))
        (H ++ [lrecS (σ.keep keep) L .ready none]) it (envOf (first ++ [.yld H.length] ++ cap) 0) (H ++ [lrecS (σ.keep keep) L .ready none]) fun e _ H3 => (e = .normal ∨ e = .ret) ∧
          ∃ ex s, s ≠ LoopState.busy ∧ H3[H.length]? = some (lrecS (σ.keep keep) L s (codeOf ex)) ∧ Q ex (σ.keep keep) (H3.set H.length (lrecS (σ.keep keep) L .exhausted (codeOf ex)))

/-! ### the translation of code -/
def dstOk (N : Nat) : Option Nat → Bool
  | some d => decide (d < N)
  | none => true

def isCallOp : Op → Bool
  | .call { callee := .value _, .. } => true
  | _ => false

def cmpOper (P : Program) (N : Nat) (ops : Array Oper) (o : Oper) : Option MOper :=
  (cmpOpF P ops o).bind fun m =>
    if dstOk N o.dst = true ∧ m.isCall = isCallOp o.op then
      let rs := o.op.operands.toList.filterMap fun | .tmp t => some t | _ => none
      match o.guard with
      | none => some ⟨m, none, o.dst, rs⟩
      | some (j, pol) => ((ops[j]?).bind (·.dst)).bind fun t => some ⟨m, some (t, pol), o.dst, rs⟩
    else none

def cmpOpers (P : Program) (N : Nat) (ops : Array Oper) : List Oper → Option (List MOper)
  | [] => some []
  | o :: os => (cmpOper P N ops o).bind fun m => (cmpOpers P N ops os).bind fun ms => some (m :: ms)

/-- What is told of a region or a loop: the slots that live on; how many operations have no order; whether the state is told anew ahead of it. -/
structure RH where
  keep : List Nat
  u : Nat
  conv : Bool
  /-- The operations' new order, where it is told. -/
  perm : List Nat

theorem get_keep (ks : List Nat) (σ : Env) (t : Nat) : (σ.keep ks).get t = if t ∈ ks then σ.get t else .undef := by
  unfold Env.keep
  induction ks with
  | nil => simp [Env.get]
  | cons k ks ih =>
    simp only [List.map_cons, Env.get, ih, List.mem_cons]
    by_cases h : k = t
    · simp [h]
    · simp [h, Ne.symm h]

theorem FRel.keep {X : Ctx} {w : World} {σ : Env} {tmps : Array Value} (h : FRel X w σ tmps) (ks : List Nat) : FRel X w (σ.keep ks) tmps := by
  intro t
  rw [get_keep]
  split
  · exact h t
  · exact .undef

theorem FRel.step {X X' : Ctx} {w w' : World} {H : Heap} (hH : HRel X H w) (hs : Stp X w X' w') {σ : Env} {tmps : Array Value} (h : FRel X w σ tmps) : FRel X' w' σ tmps := fun t => (h t).step hH hs

/-- The frame with its size and its deferred marks. -/
structure ARel (N : Nat) (D : List Deferred) (X : Ctx) (w : World) (σ : Env) (a : Act) : Prop where
  f : FRel X w σ a.tmps
  size : a.tmps.size = N
  defers : a.defers = D

theorem ARel.put {N : Nat} {D : List Deferred} {X : Ctx} {w : World} {σ : Env} {a : Act} (h : ARel N D X w σ a) {dst : Option Nat} (hd : dstOk N dst = true) {c : AV} {v : Value} (hv : VRel X w c v) :
    ARel N D X w (σ.put dst c) (a.put dst v) := by
  cases dst with
  | none => exact h
  | some d =>
    have hd' : d < N := by simpa [dstOk] using hd
    refine ⟨fun t => ?_, by simp [Act.put, h.size], by simp [Act.put, h.defers]⟩
    simp only [Env.put, Env.get, Act.put]
    by_cases e : d = t
    · subst e
      rw [if_pos rfl]
      simp [Array.getD_eq_getD_getElem?, h.size, hd']
      exact hv
    · rw [if_neg e]
      have := h.f t
      simpa [Array.getD_eq_getD_getElem?, Array.getElem?_setIfInBounds_ne e] using this

/-- The exits of code, side by side. -/
def exOf : Exit → Ex → Prop
  | .normal, .normal => True
  | .exit i, .exit j => i = j
  | .ret, .ret => True
  | _, _ => False

/-- The marks of the loops over iterators that the frame has run: blocks of no calls, each its own, none of X's. -/
structure Marks (B0 : Nat) (X : Ctx) (w : World) (D : List Deferred) : Prop where
  all : ∀ d ∈ D, ∃ r, d = ⟨.collected r, #[]⟩ ∧ B0 ≤ r ∧ w.heap[r]? = some (.deferred (some [])) ∧ ¬X.owned r
  dif : D.Pairwise (· ≠ ·)

theorem Marks.nil {B0 : Nat} {X : Ctx} {w : World} : Marks B0 X w [] := ⟨fun _ h => (nomatch h), List.Pairwise.nil⟩

theorem Marks.step {B0 : Nat} {X X' : Ctx} {w w' : World} {H : Heap} {D : List Deferred} (hH : HRel X H w) (hs : Stp X w X' w') (h : Marks B0 X w D) : Marks B0 X' w' D where
  all d hd := by
    obtain ⟨r, h1, h2, h3, h4⟩ := h.all d hd
    have hr := (Array.getElem?_eq_some_iff.1 h3).1
    refine ⟨r, h1, h2, (hs.frame r hr fun k bi hk e => h4 (e ▸ hH.own k bi hk)).trans h3, hs.notOwned h4 hr⟩
  dif := h.dif

/-- The frame, its marks and all. -/
def AM (N B0 : Nat) (X : Ctx) (w : World) (σ : Env) (a : Act) : Prop := ∃ D, ARel N D X w σ a ∧ Marks B0 X w D

theorem AM.f {N B0 : Nat} {X : Ctx} {w : World} {σ : Env} {a : Act} (h : AM N B0 X w σ a) : FRel X w σ a.tmps := by
  obtain ⟨D, h, _⟩ := h
  exact h.f

theorem AM.keep {N B0 : Nat} {X : Ctx} {w : World} {σ : Env} {a : Act} (h : AM N B0 X w σ a) (ks : List Nat) : AM N B0 X w (σ.keep ks) a := by
  obtain ⟨D, h, k⟩ := h
  exact ⟨D, ⟨h.f.keep _, h.size, h.defers⟩, k⟩

/-- What code comes to in the model, where it comes to Q in the abstract. -/
def Post (N : Nat) (X0 : Ctx) (w0 : World) (Q : Ex → Env → Heap → Prop) : Exit → Act → World → Prop := fun x a w =>
  ∃ e σ H X, exOf x e ∧ Q e σ H ∧ AM N w0.heap.size X w σ a ∧ HRel X H w ∧ Stp X0 w0 X w

/-- The fence about code: every function, no bound on the depth; in a round or not. -/
def fen (ro : Option Nat) : Fence := { Fence.wide with round := ro }

theorem fen_about {ro : Option Nat} {o : Oper} {P : Program} {w : World} {ρ : Operand → Value} : ∀ f, o.about P w ρ = some f → (fen ro).fn f := fun _ _ => trivial

theorem callsIn_fen {ro : Option Nat} {n : Nat} {P : Program} {f : FuncId} {args : Array Value} {w : World} {R : Ending → World → Prop} (h : Calls P f args w R) : CallsIn (fen ro) n P f args w R :=
  (callsIn_wide (n := n)).2 h

/-- What a call of a loop's yield comes to. -/
def YSpec (P : Program) (r : Nat) (args : List AV) (H : Heap) (v : AV) (H' : Heap) : Prop :=
  (∃ vs l, H[r]? = some (.lrec vs l)) ∧ ∀ X w vs bi, HRel X H w → VRels X w args vs → X.blk r = some bi → ∃ f tmps as bd, (Instr.yield bi.B vs.toArray).run P w = .ok (.round bi.B f tmps as bd) w ∧
    ∀ n, RoundIn Fence.wide n P bi.B f tmps as bd w (fun e w' => ∃ v' X', e = .returned v' ∧ VRel X' w' v v' ∧ HRel X' H' w' ∧ Stp X w X' w')

/-- The contracts that the calculus goes by are true ones; number 0 stands for the loops' yields. -/
structure COk (P : Program) (C : CallR) : Prop where
  fn : ∀ f args H v H', f ≠ 0 → C f args H v H' → Spec P f args H v H'
  yld : ∀ r args H v H', C 0 (.yld r :: args) H v H' → YSpec P r args H v H'

theorem callFunc_run {P : Program} {f : Nat} (h : Callable P f) (args : Array Value) (w : World) : (callFunc f args).run P w = .ok (.enter f args) w := by
  obtain ⟨fn, h1, h2, h3⟩ := h
  have h2' : fn.name ≠ "runtime.NumGoroutine" := by simpa using h2
  have h3' : fn.body ≠ none := by intro e; simp [e] at h3
  simp [callFunc, h1, h2', h3']

section
variable {P : Program} {C : CallR} {N n : Nat} {D : List Deferred} {ro : Option Nat}

/-- One operation, a call or not. -/
theorem oper_sound (hC : COk P C) {ops : Array Oper} {o : Oper} {m : MOper} (hm : cmpOper P N ops o = some m) {X : Ctx} {w : World} {a : Act} {σ σr : Env} {H : Heap} (hH : HRel X H w) (hA : ARel N D X w σ a) (hr : FRel X w σr a.tmps)
    {K : AV → Heap → Prop} (hK : wpOp C σr H m.op K) {R : Act → World → Prop} {Q : Exit → Act → World → Prop}
    (hR : ∀ v H' X' w' v', K v H' → VRel X' w' v v' → HRel X' H' w' → Stp X w X' w' → ARel N D X' w' (σ.put o.dst v) (a.put o.dst v') → R (a.put o.dst v') w') : o.wpIn (fen ro) n P a w R Q := by
  unfold cmpOper at hm
  simp only [Option.bind_eq_some_iff] at hm
  obtain ⟨mo, hmo, hm⟩ := hm
  split at hm
  case isFalse => cases hm
  rename_i hdc
  obtain ⟨hd, hcc⟩ := hdc
  have hop : m.op = mo := by
    split at hm
    · cases hm; rfl
    · simp only [Option.bind_eq_some_iff, Option.some.injEq] at hm
      obtain ⟨t, _, rfl⟩ := hm
      rfl
  rw [hop] at hK
  refine ⟨fen_about, ?_⟩
  rw [Oper.semAt_plain]
  rotate_left
  · intro c e
    have := cmpOpF_call hmo (fun t n ps e2 => by rw [e] at e2; cases e2)
    rw [e] at this
    simp [cmpOp] at this
  by_cases hcall : mo.isCall = false
  · have hW : W (stepOp σr H mo) fun p => K p.1 p.2 := by
      cases mo <;> first | exact hK | (simp [MOp.isCall] at hcall)
    obtain ⟨⟨c, H'⟩, h1, h2⟩ := hW
    obtain ⟨n, w', X', k1, k2, k3, k4⟩ := op_okF (o := o) hH hr hmo hcall h1
    rw [k1]
    rcases k2 with ⟨v, rfl, hv⟩ | ⟨rfl, rfl⟩
    · rw [Oper.uponIn_value]
      exact hR _ _ _ _ _ h2 hv k3 k4 (ARel.put ⟨hA.f.step hH k4, hA.size, hA.defers⟩ hd hv)
    · rw [Oper.uponIn_skip]
      exact hR _ _ _ _ _ h2 .undef k3 k4 (ARel.put ⟨hA.f.step hH k4, hA.size, hA.defers⟩ hd .undef)
  · have enter : ∀ f args vs, f ≠ 0 → (∃ v H', C f args H v H' ∧ K v H') → VRels X w args vs → (execOp a.eval o).run P w = (callFunc f vs.toArray).run P w → o.uponIn (fen ro) n P a R Q ((execOp a.eval o).run P w) := by
      rintro f args vs hf0 ⟨v, H', h1, h2⟩ hv he
      obtain ⟨hcl, hsp⟩ := hC.fn _ _ _ _ _ hf0 h1
      rw [he, callFunc_run hcl, Oper.uponIn_enter]
      refine ⟨fun h => (nomatch h), CallsIn.mono (callsIn_fen (hsp X w vs hH hv)) ?_⟩
      rintro e w' ⟨v', X', rfl, k2, k3, k4⟩
      exact hR _ _ _ _ _ h2 k2 k3 k4 (ARel.put ⟨hA.f.step hH k4, hA.size, hA.defers⟩ hd k2)
    have hco : isCallOp o.op = true := by rw [← hcc]; simpa using hcall
    unfold isCallOp at hco
    split at hco
    case h_2 => cases hco
    rename_i f args ts ho
    have hmo := cmpOpF_call hmo (fun t n ps e => by rw [ho] at e; cases e)
    cases f with
    | const v => rw [ho] at hmo; simp [cmpOp] at hmo
    | global g => rw [ho] at hmo; simp [cmpOp] at hmo
    | func f =>
      rw [ho] at hmo
      simp only [cmpOp] at hmo
      split at hmo
      case isTrue => cases hmo
      rename_i hf0
      simp only [Option.bind_eq_some_iff, Option.some.injEq] at hmo
      obtain ⟨xs, h1, rfl⟩ := hmo
      refine enter f _ (args.toList.map a.eval) hf0 hK (opds_ok hr h1) ?_
      unfold execOp
      have e1 : (args.toList.map a.eval).toArray = args.map a.eval := by apply Array.ext'; simp
      simp only [ho, resolve, Act.eval, Deferred.ofValue, Sem.run_bind, Sem.run_pure, Result.andThen_ok, invoke, Array.empty_append, Array.append_empty]
      rw [e1]
    | tmp t =>
      rw [ho] at hmo
      simp only [cmpOp, Option.bind_eq_some_iff, Option.some.injEq] at hmo
      obtain ⟨xs, h1, rfl⟩ := hmo
      simp only [wpOp, Opd.ev] at hK
      have ht := hr t
      split at hK
      case h_3 => exact hK.elim
      case h_2 =>
        rename_i r hg
        obtain ⟨v, H', k1, k2⟩ := hK
        obtain ⟨⟨_, l, k3⟩, k4⟩ := hC.yld _ _ _ _ _ k1
        rw [hg] at ht
        generalize hq : a.tmps.getD t undef = vt at ht
        cases ht with
        | @yld _ b bi q1 q2 =>
          obtain ⟨b2, q3, q4⟩ := hH.blk _ _ q1
          rw [k3] at q3
          cases q3
          cases q4 with
          | lrec q5 q6 _ =>
            have hb := q2 q5
            subst hb
            obtain ⟨f, tmps, as, bd, m1, m2⟩ := k4 X w (args.toList.map a.eval) bi hH (opds_ok hr h1) q1
            have e1 : (args.toList.map a.eval).toArray = args.map a.eval := by apply Array.ext'; simp
            have he : (execOp a.eval o).run P w = .ok (.round bi.B f tmps as bd) w := by
              rw [← m1, e1]
              unfold execOp
              simp only [ho, resolve, Act.eval, hq, Deferred.ofValue, Sem.run_bind, Sem.run_pure, Result.andThen_ok, invoke, Array.empty_append]
            rw [he, Oper.uponIn_round]
            refine ⟨fun h => (nomatch h), RoundIn.mono (F := fen ro) (m2 _) ?_⟩
            rintro e w' ⟨v', X', rfl, n2, n3, n4⟩
            exact hR _ _ _ _ _ k2 n2 n3 n4 (ARel.put ⟨hA.f.step hH n4, hA.size, hA.defers⟩ hd n2)
      rename_i f first cap hg
      rw [hg] at ht
      generalize hq : a.tmps.getD t undef = vt at ht
      cases ht with
      | func h1' h2' h3' h4' =>
        rename_i us vs
        refine enter f _ (us ++ args.toList.map a.eval ++ vs) hK.1 hK.2 (VRels.append (VRels.append ⟨h1', h3'⟩ (opds_ok hr h1)) ⟨h2', h4'⟩) ?_
        unfold execOp
        simp only [ho, resolve, Act.eval, hq, Deferred.ofValue, Sem.run_bind, Sem.run_pure, Result.andThen_ok, invoke]
        congr 2
        apply Array.ext'
        simp


theorem cmpOper_guard {ops : Array Oper} {o : Oper} {m : MOper} (hm : cmpOper P N ops o = some m) :
    m.dst = o.dst ∧ dstOk N o.dst = true ∧ ((m.guard = none ∧ o.guard = none) ∨ ∃ t j pol, m.guard = some (t, pol) ∧ o.guard = some (j, pol) ∧ (ops[j]?).bind (·.dst) = some t) := by
  unfold cmpOper at hm
  simp only [Option.bind_eq_some_iff] at hm
  obtain ⟨mo, hmo, hm⟩ := hm
  split at hm
  case isFalse => cases hm
  rename_i hdc
  split at hm
  · rename_i hg
    cases hm
    exact ⟨rfl, hdc.1, .inl ⟨rfl, hg⟩⟩
  · rename_i j pol hg
    simp only [Option.bind_eq_some_iff, Option.some.injEq] at hm
    obtain ⟨t, ⟨q, h1, h2⟩, rfl⟩ := hm
    exact ⟨rfl, hdc.1, .inr ⟨t, j, pol, rfl, hg, by simp [h1, h2]⟩⟩

theorem yielded_ok {ops : Array Oper} {tmps : Array Value} {j t : Nat} (hj : (ops[j]?).bind (·.dst) = some t) {b : Bool} (hb : tmps.getD t undef = .bool b) : yielded ops tmps j = some b := by
  unfold yielded
  rw [hj]
  have : tmps[t]? = some (.bool b) := by
    rw [Array.getD_eq_getD_getElem?] at hb
    cases h : tmps[t]? with
    | none => rw [h] at hb; simp [undef] at hb
    | some v => rw [h] at hb; simp at hb; rw [hb]
  simp [this]

theorem yielded_none {ops : Array Oper} {tmps : Array Value} {j t : Nat} (hj : (ops[j]?).bind (·.dst) = some t) (hb : tmps.getD t undef = .tuple #[]) : yielded ops tmps j = none := by
  unfold yielded
  rw [hj]
  rw [Array.getD_eq_getD_getElem?] at hb
  cases h : tmps[t]? with
  | none => simp [h]
  | some v => rw [h] at hb; simp at hb; subst hb; simp [h]

theorem tup0_of_rel {X : Ctx} {w : World} {v : Value} (h : VRel X w (.tup []) v) : v = .tuple #[] := by
  cases h with
  | @tup _ vs h1 h2 =>
    cases vs with
    | nil => rfl
    | cons a l => simp at h1

theorem tup0_rel {X : Ctx} {w : World} : VRel X w (.tup []) undef := .tup (vs := []) rfl (by simp)

theorem bool_of_rel {X : Ctx} {w : World} {b : Bool} {v : Value} (h : VRel X w (.bool b) v) : v = .bool b := by cases h; rfl

theorem list_sound (hC : COk P C) {ops : Array Oper} {X0 : Ctx} {w0 : World} {Q : Exit → Act → World → Prop} : ∀ {l : List Oper} {ms : List MOper}, cmpOpers P N ops l = some ms → ∀ {σ : Env} {H : Heap} {X : Ctx} {w : World} {a : Act}, Stp X0 w0 X w → HRel X H w → ARel N D X w σ a →
    ∀ {K : Env → Heap → Prop}, wpOps C ms σ H K → (∀ σ H X w a, K σ H → Stp X0 w0 X w → HRel X H w → ARel N D X w σ a → Q .normal a w) → wpListIn (fen ro) n P ops Q l a w
  | [], ms, hc, σ, H, X, w, a, hs, hH, hA, K, hK, hQ => by
    simp only [cmpOpers, Option.some.injEq] at hc
    subst hc
    exact hQ σ H X w a hK hs hH hA
  | o :: l, ms, hc, σ, H, X, w, a, hs, hH, hA, K, hK, hQ => by
    simp only [cmpOpers, Option.bind_eq_some_iff, Option.some.injEq] at hc
    obtain ⟨m, h1, ms', h2, rfl⟩ := hc
    obtain ⟨e1, e2, hg⟩ := cmpOper_guard h1
    have run : wpOp C σ H m.op (fun v H' => wpOps C ms' (σ.put m.dst v) H' K) → o.wpIn (fen ro) n P a w (wpListIn (fen ro) n P ops Q l) Q := by
      intro hw
      refine oper_sound hC h1 hH hA hA.f hw ?_
      intro v H' X' w' v' hv _ hH' hs' hA'
      rw [e1] at hv
      exact list_sound hC h2 (hs.trans hs') hH' hA' hv hQ
    unfold wpListIn
    rcases hg with ⟨g1, g2⟩ | ⟨t, j, pol, g1, g2, g3⟩
    · simp only [wpOps, g1] at hK
      rw [if_pos (by simp [Region.wanted, g2])]
      exact run hK
    · simp only [wpOps, g1] at hK
      have hskip : wpOps C ms' (σ.put m.dst (.tup [])) H K → wpListIn (fen ro) n P ops Q l (a.put o.dst undef) w := by
        intro this
        rw [e1] at this
        exact list_sound hC h2 hs hH (hA.put e2 tup0_rel) this hQ
      rcases hK with ⟨hb, k2⟩ | ⟨b, hb, k1, k2⟩
      · have hy := yielded_none g3 (tup0_of_rel (hb ▸ hA.f t))
        rw [if_neg (by simp [Region.wanted, g2, hy])]
        exact ⟨fen_about, hskip k2⟩
      · have hy := yielded_ok g3 (bool_of_rel (hb ▸ hA.f t))
        by_cases hbp : b = pol
        · rw [if_pos (by simp [Region.wanted, g2, hy, hbp])]
          exact run (k1 hbp)
        · rw [if_neg (by simp [Region.wanted, g2, hy, hbp])]
          exact ⟨fen_about, hskip (k2 (by cases b <;> cases pol <;> simp_all))⟩

end
end Go.Ab

/-
  Regions whose order is open: operations that leave what was there as it was come to the same whatever the order.
  Conditions: none.
-/
namespace Go.Ab

/-- Every reference lies below n. -/
inductive Cl (n : Nat) : AV → Prop
  | undef : Cl n .undef
  | int {k m} : Cl n (.int k m)
  | bool {b} : Cl n (.bool b)
  | str {s} : Cl n (.str s)
  | nilp : Cl n .nilp
  | ptr {r g i j} : r < n → Cl n (.ptr r g i j)
  | iptr {rows : List Row} {i j} : (∀ (i : Nat) row (j : Nat) c, rows[i]? = some row → row[j]? = some c → Cl n c) → Cl n (.iptr rows i j)
  | nils : Cl n .nils
  | slice {r g i m} : r < n → Cl n (.slice r g i m)
  | islice {rows : List Row} : (∀ (i : Nat) row (j : Nat) c, rows[i]? = some row → row[j]? = some c → Cl n c) → Cl n (.islice rows)
  | agg {cs : List AV} : (∀ (i : Nat) c, cs[i]? = some c → Cl n c) → Cl n (.agg cs)
  | tup {cs : List AV} : (∀ (i : Nat) c, cs[i]? = some c → Cl n c) → Cl n (.tup cs)
  | func {f} {as bs : List AV} : (∀ (i : Nat) c, as[i]? = some c → Cl n c) → (∀ (i : Nat) c, bs[i]? = some c → Cl n c) → Cl n (.func f as bs)
  | nilf : Cl n .nilf
  | nilmap : Cl n .nilmap
  | map {r} : r < n → Cl n (.map r)
  | yld {r} : r < n → Cl n (.yld r)
  | iface {t c} : Cl n c → Cl n (.iface t c)
  | nilI : Cl n .nilI

inductive BCl (n : Nat) : ABlk → Prop
  | rows {g s rs} : (∀ (i : Nat) row (j : Nat) c, rs[i]? = some row → row[j]? = some c → Cl n c) → BCl n (.rows g s rs)
  | map {es clock} : (∀ (i : Nat) e, es[i]? = some e → Cl n e.1 ∧ Cl n e.2.1) → BCl n (.map es clock)
  | lrec {σ0 l} : (∀ t, Cl n (Env.get σ0 t)) → BCl n (.lrec σ0 l)

theorem other {l : List AV} {vs : List Value} (h : l.length = vs.length) {i : Nat} {c : AV} (hc : l[i]? = some c) : ∃ v, vs[i]? = some v :=
  ⟨vs[i]'(by rw [← h]; exact (List.getElem?_eq_some_iff.1 hc).1), by simp⟩

theorem cl_of_rel {X : Ctx} {w : World} {n : Nat} (hd : ∀ r bi, X.blk r = some bi → r < n) {c : AV} {v : Value} (h : VRel X w c v) : Cl n c := by
  induction h with
  | undef => exact .undef
  | int => exact .int
  | bool => exact .bool
  | str _ => exact .str
  | nilp => exact .nilp
  | ptr h _ _ => exact .ptr (hd _ _ h)
  | iptr f _ _ _ _ _ ih => exact .iptr ih
  | nils => exact .nils
  | slice h _ _ _ => exact .slice (hd _ _ h)
  | islice0 => exact .islice (by simp)
  | islice f _ _ _ _ _ _ ih => exact .islice ih
  | agg hl _ ih => exact .agg fun i c hc => by obtain ⟨v, hv⟩ := other hl hc; exact ih i c v hc hv
  | tup hl _ ih => exact .tup fun i c hc => by obtain ⟨v, hv⟩ := other hl hc; exact ih i c v hc hv
  | func h1 h2 _ _ i1 i2 => exact .func (fun i c hc => by obtain ⟨v, hv⟩ := other h1 hc; exact i1 i c v hc hv) (fun i c hc => by obtain ⟨v, hv⟩ := other h2 hc; exact i2 i c v hc hv)
  | nilf => exact .nilf
  | nilmap => exact .nilmap
  | map h _ => exact .map (hd _ _ h)
  | yld h _ => exact .yld (hd _ _ h)
  | iface _ ih => exact .iface ih
  | nilI => exact .nilI

/-- The blocks below n alone. -/
def Ctx.cut (X : Ctx) (n : Nat) : Ctx := { blk := fun r => if r < n then X.blk r else none, owned := X.owned, top := n }

theorem VRel.cut {X : Ctx} {w : World} {n : Nat} {c : AV} {v : Value} (h : VRel X w c v) (hc : Cl n c) : VRel (X.cut n) w c v := by
  induction h with
  | undef => exact .undef
  | int => exact .int
  | bool => exact .bool
  | str h => exact .str h
  | nilp => exact .nilp
  | ptr h1 h2 h3 => cases hc with | ptr hr => exact .ptr (by simp [Ctx.cut, hr, h1]) h2 h3
  | iptr f h1 h2 _ h4 h5 ih => cases hc with | iptr hr => exact .iptr f h1 h2 (fun i row j c a b => ih i row j c a b (hr i row j c a b)) h4 h5
  | nils => exact .nils
  | slice h1 h2 h3 h4 => cases hc with | slice hr => exact .slice (by simp [Ctx.cut, hr, h1]) h2 h3 h4
  | islice0 => exact .islice0
  | islice f h1 h2 h3 h4 _ h6 ih => cases hc with | islice hr => exact .islice f h1 h2 h3 h4 (fun i row j c a b => ih i row j c a b (hr i row j c a b)) h6
  | agg h1 _ ih => cases hc with | agg hr => exact .agg h1 (fun i c v a b => ih i c v a b (hr i c a))
  | tup h1 _ ih => cases hc with | tup hr => exact .tup h1 (fun i c v a b => ih i c v a b (hr i c a))
  | func h1 h2 _ _ i1 i2 => cases hc with | func r1 r2 => exact .func h1 h2 (fun i c v a b => i1 i c v a b (r1 i c a)) (fun i c v a b => i2 i c v a b (r2 i c a))
  | nilf => exact .nilf
  | nilmap => exact .nilmap
  | map h1 h2 => cases hc with | map hr => exact .map (by simp [Ctx.cut, hr, h1]) h2
  | yld h1 h2 => cases hc with | yld hr => exact .yld (by simp [Ctx.cut, hr, h1]) h2
  | iface _ ih => cases hc with | iface hr => exact .iface (ih hr)
  | nilI => exact .nilI

/-- More blocks. -/
theorem VRel.ext {X X' : Ctx} {w : World} (h : ∀ r bi, X.blk r = some bi → X'.blk r = some bi) (ho : X'.owned = X.owned) {c : AV} {v : Value} (hv : VRel X w c v) : VRel X' w c v := by
  induction hv with
  | undef => exact .undef
  | int => exact .int
  | bool => exact .bool
  | str h => exact .str h
  | nilp => exact .nilp
  | ptr h1 h2 h3 => exact .ptr (h _ _ h1) h2 h3
  | iptr f h1 h2 _ h4 h5 ih => exact .iptr f h1 h2 ih (by rw [ho]; exact h4) h5
  | nils => exact .nils
  | slice h1 h2 h3 h4 => exact .slice (h _ _ h1) h2 h3 h4
  | islice0 => exact .islice0
  | islice f h1 h2 h3 h4 _ h6 ih => exact .islice f h1 h2 h3 h4 ih (by rw [ho]; exact h6)
  | agg h1 _ ih => exact .agg h1 ih
  | tup h1 _ ih => exact .tup h1 ih
  | func h1 h2 _ _ i3 i4 => exact .func h1 h2 i3 i4
  | nilf => exact .nilf
  | nilmap => exact .nilmap
  | map h1 h2 => exact .map (h _ _ h1) h2
  | yld h1 h2 => exact .yld (h _ _ h1) h2
  | iface _ ih => exact .iface ih
  | nilI => exact .nilI

theorem BRel.cut {X : Ctx} {w : World} {n : Nat} {bi : BI} {b : ABlk} (h : BRel X w bi b) (hc : BCl n b) : BRel (X.cut n) w bi b := by
  cases h with
  | rows h1 hs h2 h3 h4 h5 h6 h7 =>
    cases hc with
    | rows hr =>
      refine .rows h1 hs h2 h3 h4 h5 h6 (fun i row j c a b => ?_)
      obtain ⟨v, k1, k2, k3⟩ := h7 i row j c a b
      exact ⟨v, k1, k2, k3.cut (hr i row j c a b)⟩
  | map h1 h2 h3 h4 =>
    cases hc with
    | map hr => exact .map h1 h2 h3 (fun i e m a b => ⟨(h4 i e m a b).key.cut (hr i e a).1, (h4 i e m a b).val.cut (hr i e a).2, (h4 i e m a b).born⟩)
  | lrec h1 h2 h3 =>
    cases hc with
    | lrec hr => exact .lrec h1 h2 (fun t => (h3 t).cut (hr t))

theorem BRel.ext {X X' : Ctx} {w : World} (h : ∀ r bi, X.blk r = some bi → X'.blk r = some bi) (ho : X'.owned = X.owned) {bi : BI} {b : ABlk} (hb : BRel X w bi b) : BRel X' w bi b := by
  cases hb with
  | rows h1 hs h2 h3 h4 h5 h6 h7 =>
    refine .rows h1 hs h2 h3 h4 h5 h6 (fun i row j c a b => ?_)
    obtain ⟨v, k1, k2, k3⟩ := h7 i row j c a b
    exact ⟨v, k1, k2, k3.ext h ho⟩
  | map h1 h2 h3 h4 => exact .map h1 h2 h3 (fun i e m a b => ⟨(h4 i e m a b).key.ext h ho, (h4 i e m a b).val.ext h ho, (h4 i e m a b).born⟩)
  | lrec h1 h2 h3 => exact .lrec h1 h2 (fun t => (h3 t).ext h ho)

theorem bcl_of_rel {X : Ctx} {w : World} {n : Nat} (hd : ∀ r bi, X.blk r = some bi → r < n) {bi : BI} {b : ABlk} (h : BRel X w bi b) : BCl n b := by
  cases h with
  | rows h1 hs h2 h3 h4 h5 h6 h7 =>
    refine .rows (fun i row j c a b => ?_)
    obtain ⟨v, k1, k2, k3⟩ := h7 i row j c a b
    exact cl_of_rel hd k3
  | map h1 h2 h3 h4 =>
    rename_i es clock ms
    refine .map (fun i e a => ?_)
    obtain ⟨m, hm⟩ : ∃ m, ms[i]? = some m := ⟨ms[i]'(by rw [← h3]; exact (List.getElem?_eq_some_iff.1 a).1), by simp⟩
    exact ⟨cl_of_rel hd (h4 i e m a hm).key, cl_of_rel hd (h4 i e m a hm).val⟩
  | lrec _ _ h3 => exact .lrec fun t => cl_of_rel hd (h3 t)

theorem Cl.mono {n m : Nat} (h : n ≤ m) {c : AV} (hc : Cl n c) : Cl m c := by
  induction hc with
  | undef => exact .undef
  | int => exact .int
  | bool => exact .bool
  | str => exact .str
  | nilp => exact .nilp
  | ptr hr => exact .ptr (by omega)
  | iptr _ ih => exact .iptr ih
  | nils => exact .nils
  | slice hr => exact .slice (by omega)
  | islice _ ih => exact .islice ih
  | agg _ ih => exact .agg ih
  | tup _ ih => exact .tup ih
  | func _ _ i1 i2 => exact .func i1 i2
  | nilf => exact .nilf
  | nilmap => exact .nilmap
  | map hr => exact .map (by omega)
  | yld hr => exact .yld (by omega)
  | iface _ ih => exact .iface ih
  | nilI => exact .nilI

theorem BCl.mono {n m : Nat} (h : n ≤ m) {b : ABlk} (hc : BCl n b) : BCl m b := by
  cases hc with
  | rows hr => exact .rows fun i row j c a b => (hr i row j c a b).mono h
  | map hr => exact .map fun i e a => ⟨(hr i e a).1.mono h, (hr i e a).2.mono h⟩
  | lrec hr => exact .lrec fun t => (hr t).mono h

/-- What is kept where what nobody owns stays as it is. -/
theorem VRel.stepO {X X' : Ctx} {w w' : World} (hf : ∀ b, b < w.heap.size → ¬X.owned b → w'.heap[b]? = w.heap[b]?) (hsz : w.heap.size ≤ w'.heap.size)
    (hm : ∀ r bi, X.blk r = some bi → ∃ bi', X'.blk r = some bi' ∧ bi.g ≤ bi'.g ∧ (bi'.g = bi.g → bi' = bi)) (hn : ∀ b, X'.owned b → X.owned b ∨ w.heap.size ≤ b) {c : AV} {v : Value} (hv : VRel X w c v) : VRel X' w' c v := by
  have no : ∀ b, ¬X.owned b → b < w.heap.size → ¬X'.owned b := by
    intro b h1 h2 h3
    rcases hn b h3 with h | h
    · exact h1 h
    · omega
  have cell : ∀ (a : Addr) u, ¬X.owned a.block → w.cell? a = some u → w'.cell? a = some u := by
    intro a u h1 h2
    have := hf a.block (World.block_lt_of_cell? w a h2) h1
    simpa [World.cell?, this] using h2
  induction hv with
  | undef => exact .undef
  | int => exact .int
  | bool => exact .bool
  | str h => exact .str h
  | nilp => exact .nilp
  | ptr hr hg ha =>
    obtain ⟨bi', hr', hg', he⟩ := hm _ _ hr
    exact .ptr hr' (Nat.le_trans hg hg') (fun e => by have := he (by omega); subst this; exact ha e)
  | iptr f hl hc _ h4 h5 ih => exact .iptr f hl (fun i row j c h1 h2 => ⟨cell _ _ h4 (hc i row j c h1 h2).1, (hc i row j c h1 h2).2⟩) ih (no _ h4 h5) (by omega)
  | nils => exact .nils
  | slice hr hg h3 ha =>
    obtain ⟨bi', hr', hg', he⟩ := hm _ _ hr
    exact .slice hr' (Nat.le_trans hg hg') h3 (fun e => by have := he (by omega); subst this; exact ha e)
  | islice0 => exact .islice0
  | islice f hr h2 hl hc _ ho ih =>
    refine .islice f hr h2 hl (fun i row j c a1 a2 => ?_) ih (fun h0 => ⟨no _ (ho h0).1 (ho h0).2.2, (ho h0).2.1, by have := (ho h0).2.2; omega⟩)
    have h0 := ho (by have := (List.getElem?_eq_some_iff.1 a1).1; omega)
    exact ⟨cell _ _ h0.1 (hc i row j c a1 a2).1, (hc i row j c a1 a2).2⟩
  | agg h1 _ ih => exact .agg h1 ih
  | tup h1 _ ih => exact .tup h1 ih
  | func h1 h2 _ _ i3 i4 => exact .func h1 h2 i3 i4
  | nilf => exact .nilf
  | nilmap => exact .nilmap
  | map hr hg =>
    obtain ⟨bi', hr', hg', he⟩ := hm _ _ hr
    exact .map hr' (fun e => by have := he (by omega); subst this; exact hg e)
  | yld hr hg =>
    obtain ⟨bi', hr', hg', he⟩ := hm _ _ hr
    exact .yld hr' (fun e => by have := he (by omega); subst this; exact hg e)
  | iface _ ih => exact .iface ih
  | nilI => exact .nilI

/-! ### the abstract run, step by step -/
def EnvAt (u : List MOper) (cs : Nat → AV) (σ : Env) : Nat → Env
  | 0 => σ
  | i + 1 => (EnvAt u cs σ i).put (u[i]?.bind (·.dst)) (cs i)

def stepTo (C : CallR) (σ : Env) (H : Heap) (o : MOper) (c : AV) (H' : Heap) : Prop :=
  match o.guard with
  | none => wpOp C (σ.keep o.reads) H o.op fun v K => v = c ∧ K = H'
  | some (t, pol) => gdP (σ.get t) pol (wpOp C (σ.keep o.reads) H o.op fun v K => v = c ∧ K = H') (c = .tup [] ∧ H' = H)

theorem wpOp_one {C : CallR} {σ : Env} {H : Heap} {op : MOp} {K : AV → Heap → Prop} (h : wpOp C σ H op K) : ∃ c H', wpOp C σ H op (fun v K' => v = c ∧ K' = H') ∧ K c H' := by
  have plain : W (stepOp σ H op) (fun p => K p.1 p.2) → ∃ c H', W (stepOp σ H op) (fun p => p.1 = c ∧ p.2 = H') ∧ K c H' := by
    rintro ⟨⟨c, H'⟩, h1, h2⟩
    exact ⟨c, H', ⟨_, h1, rfl, rfl⟩, h2⟩
  cases op
  case call f args =>
    obtain ⟨v, H', h1, h2⟩ := h
    exact ⟨v, H', ⟨v, H', h1, rfl, rfl⟩, h2⟩
  case callv x args =>
    simp only [wpOp] at h ⊢
    split at h
    · obtain ⟨h0, v, H', h1, h2⟩ := h
      exact ⟨v, H', ⟨h0, v, H', h1, rfl, rfl⟩, h2⟩
    · obtain ⟨v, H', h1, h2⟩ := h
      exact ⟨v, H', ⟨v, H', h1, rfl, rfl⟩, h2⟩
    · exact h.elim
  all_goals exact plain h

theorem envAt_shift (o : MOper) (os : List MOper) (cs : Nat → AV) (σ : Env) : ∀ i, EnvAt (o :: os) cs σ (i + 1) = EnvAt os (fun j => cs (j + 1)) (σ.put o.dst (cs 0)) i
  | 0 => by simp [EnvAt]
  | i + 1 => by
    rw [EnvAt, envAt_shift o os cs σ i, EnvAt]
    simp

theorem trace_of {C : CallR} : ∀ {u : List MOper} {σ : Env} {H : Heap} {K : Env → Heap → Prop}, wpU C u σ H K →
    ∃ (cs : Nat → AV) (Hs : Nat → Heap), Hs 0 = H ∧ (∀ i o, u[i]? = some o → stepTo C (EnvAt u cs σ i) (Hs i) o (cs i) (Hs (i + 1)) ∧ ∃ N, Hs (i + 1) = Hs i ++ N) ∧ K (EnvAt u cs σ u.length) (Hs u.length)
  | [], σ, H, K, h => ⟨fun _ => .undef, fun _ => H, rfl, by simp, h⟩
  | o :: os, σ, H, K, h => by
    have main : ∀ c H', stepTo C σ H o c H' → (∃ N, H' = H ++ N) → wpU C os (σ.put o.dst c) H' K →
        ∃ (cs : Nat → AV) (Hs : Nat → Heap), Hs 0 = H ∧ (∀ i p, (o :: os)[i]? = some p → stepTo C (EnvAt (o :: os) cs σ i) (Hs i) p (cs i) (Hs (i + 1)) ∧ ∃ N, Hs (i + 1) = Hs i ++ N) ∧ K (EnvAt (o :: os) cs σ (o :: os).length) (Hs (o :: os).length) := by
      intro c H' h1 h2 h3
      obtain ⟨cs, Hs, k1, k2, k3⟩ := trace_of h3
      refine ⟨fun i => match i with | 0 => c | i + 1 => cs i, fun i => match i with | 0 => H | i + 1 => Hs i, rfl, fun i p hp => ?_, ?_⟩
      · cases i with
        | zero =>
          simp at hp
          subst hp
          simp only [EnvAt, k1]
          exact ⟨h1, h2⟩
        | succ i =>
          simp at hp
          rw [envAt_shift]
          exact k2 i p hp
      · simp only [List.length_cons]
        rw [envAt_shift]
        exact k3
    unfold wpU at h
    cases hg : o.guard with
    | none =>
      rw [hg] at h
      obtain ⟨c, H', h1, h2, h3⟩ := wpOp_one h
      exact main c H' (by simp only [stepTo, hg]; exact h1) h2 h3
    | some p =>
      obtain ⟨t, pol⟩ := p
      rw [hg] at h
      rcases h with ⟨hb, h2⟩ | ⟨b, hb, h1, h2⟩
      · refine main (.tup []) H ?_ ⟨[], by simp⟩ h2
        unfold stepTo
        rw [hg]
        exact .inl ⟨hb, rfl, rfl⟩
      by_cases hbp : b = pol
      · obtain ⟨c, H', k1, k2, k3⟩ := wpOp_one (h1 hbp)
        refine main c H' ?_ k2 k3
        simp only [stepTo, hg]
        exact .inr ⟨b, hb, fun _ => k1, fun e => by subst hbp; cases b <;> simp at e⟩
      · refine main (.tup []) H ?_ ⟨[], by simp⟩ (h2 (by cases b <;> cases pol <;> simp_all))
        unfold stepTo
        rw [hg]
        exact .inr ⟨b, hb, fun e => absurd e hbp, fun _ => ⟨rfl, rfl⟩⟩

theorem put_get_ne (σ : Env) (dst : Option Nat) (c : AV) {t : Nat} (h : dst ≠ some t) : (σ.put dst c).get t = σ.get t := by
  cases dst with
  | none => rfl
  | some d =>
    have : d ≠ t := fun e => h (by rw [e])
    simp [Env.put, Env.get, this]

theorem envAt_none {u : List MOper} {cs : Nat → AV} {σ : Env} {t : Nat} : ∀ i, (∀ j, j < i → u[j]?.bind (·.dst) ≠ some t) → (EnvAt u cs σ i).get t = σ.get t
  | 0, _ => rfl
  | i + 1, h => by
    rw [EnvAt, put_get_ne _ _ _ (h i (by omega))]
    exact envAt_none i fun j hj => h j (by omega)

theorem envAt_some {u : List MOper} {cs : Nat → AV} {σ : Env} {t j : Nat} (hj : u[j]?.bind (·.dst) = some t) : ∀ i, j < i → (∀ k, j < k → k < i → u[k]?.bind (·.dst) ≠ some t) → (EnvAt u cs σ i).get t = cs j
  | 0, h, _ => by omega
  | i + 1, h, hn => by
    rw [EnvAt]
    by_cases e : i = j
    · subst e
      rw [hj]
      simp [Env.put, Env.get]
    · rw [put_get_ne _ _ _ (hn i (by omega) (by omega))]
      exact envAt_some hj i (by omega) fun k h1 h2 => hn k h1 (by omega)


/-- What is known when the operations of S are behind us. -/
structure DInv (N nU : Nat) (Dm : List Deferred) (X0 : Ctx) (w0 : World) (D : Nat → Option Nat) (σ : Env) (cs : Nat → AV) (Hs : Nat → Heap) (S : Nat → Prop) (X : Ctx) (w : World) (a : Act) : Prop where
  blk : ∀ r bi, X.blk r = some bi → ∃ b, (Hs nU)[r]? = some b ∧ BRel X w bi b ∧ ∀ k, k ≤ nU → r < (Hs k).length → BCl (Hs k).length b
  dom : ∀ r bi, X.blk r = some bi → r < (Hs 0).length ∨ ∃ j, S j ∧ j < nU ∧ (Hs j).length ≤ r ∧ r < (Hs (j + 1)).length
  inj : ∀ r r' bi bi', X.blk r = some bi → X.blk r' = some bi' → bi.B = bi'.B → r = r'
  own : ∀ r bi, X.blk r = some bi → X.owned bi.B
  old : ∀ b, X.owned b → b < w.heap.size
  top : X.top ≤ (Hs 0).length
  fr0 : ∀ t, (∀ j, j < nU → S j → D j ≠ some t) → VRel X w (σ.get t) (a.tmps.getD t undef) ∧ Cl (Hs 0).length (σ.get t)
  fr1 : ∀ j t, S j → j < nU → D j = some t → VRel X w (cs j) (a.tmps.getD t undef) ∧ Cl (Hs (j + 1)).length (cs j)
  size : a.tmps.size = N
  defers : a.defers = Dm
  stp : Stp X0 w0 X w

theorem hs_mono {nU : Nat} {Hs : Nat → Heap} (hp : ∀ i, i < nU → ∃ N, Hs (i + 1) = Hs i ++ N) : ∀ i j, i ≤ j → j ≤ nU → ∃ N, Hs j = Hs i ++ N := by
  intro i j hij hj
  induction j with
  | zero => have : i = 0 := by omega
            subst this; exact ⟨[], by simp⟩
  | succ j ih =>
    by_cases e : i = j + 1
    · subst e; exact ⟨[], by simp⟩
    · obtain ⟨M, hM⟩ := ih (by omega) (by omega)
      obtain ⟨N, hN⟩ := hp j (by omega)
      exact ⟨M ++ N, by rw [hN, hM, List.append_assoc]⟩

theorem hs_len {nU : Nat} {Hs : Nat → Heap} (hp : ∀ i, i < nU → ∃ N, Hs (i + 1) = Hs i ++ N) {i j : Nat} (hij : i ≤ j) (hj : j ≤ nU) : (Hs i).length ≤ (Hs j).length := by
  obtain ⟨N, h⟩ := hs_mono hp i j hij hj
  rw [h]; simp

theorem hs_get {nU : Nat} {Hs : Nat → Heap} (hp : ∀ i, i < nU → ∃ N, Hs (i + 1) = Hs i ++ N) {i j r : Nat} (hij : i ≤ j) (hj : j ≤ nU) (hr : r < (Hs i).length) : (Hs j)[r]? = (Hs i)[r]? := by
  obtain ⟨N, h⟩ := hs_mono hp i j hij hj
  rw [h, List.getElem?_append_left hr]

section
variable {N nU : Nat} {Dm : List Deferred} {X0 : Ctx} {w0 : World} {D : Nat → Option Nat} {σ : Env} {cs : Nat → AV} {Hs : Nat → Heap} {S : Nat → Prop} {X : Ctx} {w : World} {a : Act}

/-- The state as the operation i sees it. -/
theorem DInv.hrel (h : DInv N nU Dm X0 w0 D σ cs Hs S X w a) (hp : ∀ i, i < nU → ∃ N, Hs (i + 1) = Hs i ++ N) {i : Nat} (hi : i ≤ nU) : HRel (X.cut (Hs i).length) (Hs i) w := by
  have sub : ∀ r bi, (X.cut (Hs i).length).blk r = some bi → r < (Hs i).length ∧ X.blk r = some bi := by
    intro r bi hr
    simp only [Ctx.cut] at hr
    split at hr
    · rename_i h1; exact ⟨h1, hr⟩
    · cases hr
  refine ⟨fun r bi hr => ?_, fun r r' bi bi' hr hr' e => h.inj r r' bi bi' (sub r bi hr).2 (sub r' bi' hr').2 e, fun r bi hr => h.own r bi (sub r bi hr).2, h.old, Nat.le_refl _⟩
  obtain ⟨h1, h2⟩ := sub r bi hr
  obtain ⟨b, k1, k2, k3⟩ := h.blk r bi h2
  exact ⟨b, by rw [← hs_get hp hi (Nat.le_refl _) h1]; exact k1, k2.cut (k3 i hi h1)⟩

/-- Behind an operation that ran. -/
theorem DInv.ran (h : DInv N nU Dm X0 w0 D σ cs Hs S X w a) (hp : ∀ i, i < nU → ∃ N, Hs (i + 1) = Hs i ++ N) {i : Nat} (hi : i < nU) (hS : ¬S i) (hD : ∀ j, j < nU → j ≠ i → ∀ t, D i = some t → D j ≠ some t) (hd : dstOk N (D i) = true)
    {X1 : Ctx} {w1 : World} {v : Value} (hv : VRel X1 w1 (cs i) v) (h1 : HRel X1 (Hs (i + 1)) w1) (hs : Stp (X.cut (Hs i).length) w X1 w1) :
    ∃ X', DInv N nU Dm X0 w0 D σ cs Hs (fun j => S j ∨ j = i) X' w1 (a.put (D i) v) := by
  have hlen : (Hs i).length ≤ (Hs (i + 1)).length := hs_len hp (by omega) (by omega)
  have hlf : (Hs (i + 1)).length ≤ (Hs nU).length := hs_len hp (by omega) (Nat.le_refl _)
  let X' : Ctx := { blk := fun r => if r < (Hs (i + 1)).length then X1.blk r else X.blk r, owned := X1.owned, top := X.top }
  have dom1 : ∀ r bi, X1.blk r = some bi → r < (Hs (i + 1)).length := by
    intro r bi hr
    obtain ⟨b, k, _⟩ := h1.blk r bi hr
    exact (List.getElem?_eq_some_iff.1 k).1
  have cutI : ∀ r bi, r < (Hs i).length → X.blk r = some bi → (X.cut (Hs i).length).blk r = some bi := by
    intro r bi h1 h2; simp [Ctx.cut, h1, h2]
  have ofCut : ∀ r bi, (X.cut (Hs i).length).blk r = some bi → r < (Hs i).length ∧ X.blk r = some bi := by
    intro r bi hr
    simp only [Ctx.cut] at hr
    split at hr
    · rename_i h1; exact ⟨h1, hr⟩
    · cases hr
  -- between the lengths nothing is laid yet
  have gap : ∀ r bi, X.blk r = some bi → (Hs i).length ≤ r → (Hs (i + 1)).length ≤ r := by
    intro r bi hr hle
    rcases h.dom r bi hr with hd | ⟨j, j1, j2, j3, j4⟩
    · have := hs_len hp (i := 0) (j := i) (by omega) (by omega); omega
    · have hji : j ≠ i := fun e => hS (e ▸ j1)
      by_cases hlt : j < i
      · have := hs_len hp (i := j + 1) (j := i) (by omega) (by omega); omega
      · have := hs_len hp (i := i + 1) (j := j) (by omega) (by omega); omega
  have ext1 : ∀ r bi, X1.blk r = some bi → X'.blk r = some bi := by
    intro r bi hr; simp [X', dom1 r bi hr, hr]
  have mono : ∀ r bi, X.blk r = some bi → ∃ bi', X'.blk r = some bi' ∧ bi.g ≤ bi'.g ∧ (bi'.g = bi.g → bi' = bi) := by
    intro r bi hr
    by_cases hlt : r < (Hs i).length
    · obtain ⟨bi', k1, k2, k3⟩ := hs.mono r bi (cutI r bi hlt hr)
      exact ⟨bi', ext1 r bi' k1, k2, k3⟩
    · have := gap r bi hr (by omega)
      exact ⟨bi, by simp [X', show ¬ r < (Hs (i + 1)).length by omega, hr], Nat.le_refl _, fun _ => rfl⟩
  have frameO : ∀ b, b < w.heap.size → ¬X.owned b → w1.heap[b]? = w.heap[b]? := by
    intro b hb hn
    exact hs.frame b hb fun r bi hr e => hn (e ▸ h.own r bi (ofCut r bi hr).2)
  have newO : ∀ b, X'.owned b → X.owned b ∨ w.heap.size ≤ b := fun b hb => hs.new b hb
  have vkeep : ∀ {c : AV} {v : Value}, VRel X w c v → VRel X' w1 c v := fun h => h.stepO frameO hs.size mono newO
  have far : ∀ r bi r2 bi2, X1.blk r = some bi → X.blk r2 = some bi2 → (Hs (i + 1)).length ≤ r2 → bi.B ≠ bi2.B := by
    intro r bi r2 bi2 hr hr2 hle e
    rcases hs.fresh r bi hr with hf | ⟨b0, q1, q2⟩
    · have := h.old _ (h.own r2 bi2 hr2); omega
    · obtain ⟨q3, q4⟩ := ofCut r b0 q1
      have := h.inj r r2 b0 bi2 q4 hr2 (q2.trans e)
      omega
  have old : ∀ r bi, X'.blk r = some bi → (r < (Hs (i + 1)).length ∧ X1.blk r = some bi) ∨ ((Hs (i + 1)).length ≤ r ∧ X.blk r = some bi) := by
    intro r bi hr
    simp only [X'] at hr
    split at hr
    · rename_i q; exact .inl ⟨q, hr⟩
    · rename_i q; exact .inr ⟨by omega, hr⟩
  have hput : ∀ t, (a.put (D i) v).tmps.getD t undef = if D i = some t then v else a.tmps.getD t undef := by
    intro t
    cases hdi : D i with
    | none => simp [Act.put]
    | some d =>
      rw [hdi] at hd
      have hd' : d < N := by simpa [dstOk] using hd
      by_cases e : d = t
      · subst e; simp [Act.put, Array.getD_eq_getD_getElem?, h.size, hd']
      · simp [Act.put, Array.getD_eq_getD_getElem?, Array.getElem?_setIfInBounds_ne e, e]
  refine ⟨X', ?_, ?_, ?_, ?_, h1.old, h.top, ?_, ?_, ?_, ?_, ?_⟩
  · intro r bi hr
    rcases old r bi hr with ⟨q1, q2⟩ | ⟨q1, q2⟩
    · obtain ⟨b, k1, k2⟩ := h1.blk r bi q2
      refine ⟨b, by rw [hs_get hp (i := i + 1) (by omega) (Nat.le_refl _) q1]; exact k1, k2.ext ext1 rfl, fun k hk hrk => ?_⟩
      by_cases hki : k ≤ i
      · have hri : r < (Hs i).length := by have := hs_len hp hki (by omega); omega
        -- the block was there before, and holds the same
        by_cases hX : ∃ b0, X.blk r = some b0
        · obtain ⟨b0, hb0⟩ := hX
          obtain ⟨b', m1, m2, m3⟩ := h.blk r b0 hb0
          rw [hs_get hp (i := i + 1) (by omega) (Nat.le_refl _) q1, k1] at m1
          cases m1
          exact m3 k hk hrk
        · exfalso
          rcases hs.later r bi q2 with ⟨b0, z1⟩ | hf
          · exact hX ⟨b0, (ofCut r b0 z1).2⟩
          · simp only [Ctx.cut] at hf; omega
      · exact (bcl_of_rel dom1 k2).mono (hs_len hp (by omega) hk)
    · obtain ⟨b, k1, k2, k3⟩ := h.blk r bi q2
      refine ⟨b, k1, ?_, k3⟩
      have hheap : w1.heap[bi.B]? = w.heap[bi.B]? := by
        refine hs.frame _ (h.old _ (h.own r bi q2)) fun r2 b2 z e => ?_
        obtain ⟨z1, z2⟩ := ofCut r2 b2 z
        have := h.inj r2 r b2 bi z2 q2 e
        omega
      cases k2 with
      | rows m1 ms m2 m3 m4 m5 m6 m7 =>
        refine .rows m1 ms (hheap.trans m2) m3 m4 m5 m6 (fun i row j c p q => ?_)
        obtain ⟨u, n1, n2, n3⟩ := m7 i row j c p q
        exact ⟨u, by simpa [World.cell?, hheap] using n1, n2, vkeep n3⟩
      | map m1 m2 m3 m4 => exact .map m1 (hheap.trans m2) m3 (fun i x m p q => ⟨vkeep (m4 i x m p q).key, vkeep (m4 i x m p q).val, (m4 i x m p q).born⟩)
      | lrec m1 m2 m3 => exact .lrec m1 (hheap.trans m2) (fun t => vkeep (m3 t))
  · intro r bi hr
    rcases old r bi hr with ⟨q1, q2⟩ | ⟨q1, q2⟩
    · by_cases hri : r < (Hs i).length
      · rcases hs.later r bi q2 with ⟨b0, z1⟩ | hf
        · rcases h.dom r b0 (ofCut r b0 z1).2 with hd | ⟨j, j1, j2, j3, j4⟩
          · exact .inl hd
          · exact .inr ⟨j, .inl j1, j2, j3, j4⟩
        · simp only [Ctx.cut] at hf; omega
      · exact .inr ⟨i, .inr rfl, hi, by omega, q1⟩
    · rcases h.dom r bi q2 with hd | ⟨j, j1, j2, j3, j4⟩
      · exact .inl hd
      · exact .inr ⟨j, .inl j1, j2, j3, j4⟩
  · intro r r' bi bi' hr hr' e
    rcases old r bi hr with ⟨q1, q2⟩ | ⟨q1, q2⟩ <;> rcases old r' bi' hr' with ⟨p1, p2⟩ | ⟨p1, p2⟩
    · exact h1.inj r r' bi bi' q2 p2 e
    · exact absurd e (far r bi r' bi' q2 p2 p1)
    · exact absurd e.symm (far r' bi' r bi p2 q2 q1)
    · exact h.inj r r' bi bi' q2 p2 e
  · intro r bi hr
    rcases old r bi hr with ⟨q1, q2⟩ | ⟨q1, q2⟩
    · exact h1.own r bi q2
    · exact hs.owned _ (h.own r bi q2)
  · intro t ht
    have hti : D i ≠ some t := ht i hi (.inr rfl)
    obtain ⟨k1, k2⟩ := h.fr0 t fun j hj hSj => ht j hj (.inl hSj)
    rw [hput, if_neg hti]
    exact ⟨vkeep k1, k2⟩
  · intro j t hSj hj hDj
    rcases hSj with hSj | rfl
    · have hji : j ≠ i := fun e => hS (e ▸ hSj)
      obtain ⟨k1, k2⟩ := h.fr1 j t hSj hj hDj
      have hti : D i ≠ some t := fun e => hD j hj hji t e hDj
      rw [hput, if_neg hti]
      exact ⟨vkeep k1, k2⟩
    · rw [hput, if_pos hDj]
      exact ⟨hv.ext ext1 rfl, cl_of_rel dom1 hv⟩
  · cases hdi : D i <;> simp [Act.put, h.size]
  · cases hdi : D i <;> simp [Act.put, h.defers]
  · refine h.stp.trans ⟨hs.size, hs.os, hs.tape, hs.output, fun b hb hn => hs.frame b hb fun r bi hr => hn r bi (ofCut r bi hr).2, mono, hs.owned, fun r bi hr => ?_, newO, rfl, fun r bi hr => ?_⟩
    · rcases old r bi hr with ⟨q1, q2⟩ | ⟨q1, q2⟩
      · rcases hs.fresh r bi q2 with hf | ⟨b0, z1, z2⟩
        · exact .inl hf
        · exact .inr ⟨b0, (ofCut r b0 z1).2, z2⟩
      · exact .inr ⟨bi, q2, rfl⟩
    · rcases old r bi hr with ⟨q1, q2⟩ | ⟨q1, q2⟩
      · rcases hs.later r bi q2 with ⟨b0, z1⟩ | hf
        · exact .inl ⟨b0, (ofCut r b0 z1).2⟩
        · simp only [Ctx.cut] at hf
          have := hs_len hp (i := 0) (j := i) (by omega) (by omega)
          have := h.top
          exact .inr (by omega)
      · exact .inl ⟨bi, q2⟩

end
end Go.Ab

/-
  Regions whose order is open, whole: every order comes to the same.
  Conditions: none.
-/
namespace Go.Ab

def befM (acc : List Nat) (o : Oper) : Nat := o.after.toList.foldl (fun s e => if Region.binds .any e then s ||| 2 ^ e.on ||| acc.getD e.on 0 else s) 0

def befL : List Oper → List Nat → List Nat
  | [], acc => acc
  | o :: os, acc => befL os (acc ++ [befM acc o])

/-- Nothing that an operation among the first so many reads is written by another of them, unless that one goes before; each writes a slot of its own; the rest goes in the order of the text, behind all. -/
def slotsOf (m : MOper) : List Nat := m.reads ++ (m.guard.toList.map (·.1))

/-- The operation k may run behind the operation j as well as ahead of it. -/
def floatOk (ms : List MOper) (k j : Nat) : Bool :=
  match ms[k]?, ms[j]? with
  | some mk, some mj => (floats mk.op || isLd mk) && (match mk.dst with | some d => !(slotsOf mj).contains d && decide (mj.dst ≠ some d) | none => true) && (match mj.dst with | some d => !(slotsOf mk).contains d | none => true)
  | _, _ => false

theorem floatOk_ok {ms : List MOper} {k j : Nat} (h : floatOk ms k j = true) {mk mj : MOper} (hk : ms[k]? = some mk) (hj : ms[j]? = some mj) :
    (floats mk.op = true ∨ isLd mk = true) ∧ (∀ t, mk.dst = some t → t ∉ slotsOf mj ∧ mj.dst ≠ some t) ∧ (∀ t, mj.dst = some t → t ∉ slotsOf mk) := by
  simp only [floatOk, hk, hj, Bool.and_eq_true, Bool.or_eq_true] at h
  obtain ⟨⟨h1, h2⟩, h3⟩ := h
  refine ⟨h1, fun t ht => ?_, fun t ht => ?_⟩
  · rw [ht] at h2
    simpa using h2
  · rw [ht] at h3
    simpa using h3

theorem floats_step {op : MOp} (hf : floats op = true) (σ : Env) (H H2 : Heap) : stepOp σ H2 op = (stepOp σ H op).map fun p => (p.1, H2) := by
  cases op <;> simp only [floats, Bool.false_eq_true] at hf <;> simp only [stepOp]
  all_goals (first | rfl | skip)
  all_goals ((repeat' split) <;> simp [Option.map_bind, Function.comp_def, req])
  all_goals (congr 1; funext n; split <;> simp [Option.map_bind, Function.comp_def])

theorem floats_wp {C : CallR} {op : MOp} (hf : floats op = true) {σ : Env} {H H1 H2 : Heap} {c : AV} (h : wpOp C σ H op fun v K => v = c ∧ K = H1) : H1 = H ∧ wpOp C σ H2 op fun v K => v = c ∧ K = H2 := by
  have hw : ∀ {H : Heap} {R : AV → Heap → Prop}, wpOp C σ H op R = W (stepOp σ H op) fun p => R p.1 p.2 := by
    intro H R
    cases op <;> first | rfl | cases hf
  rw [hw] at h ⊢
  obtain ⟨⟨v, K⟩, h1, rfl, rfl⟩ := h
  have h2 := floats_step hf σ H H
  rw [h1] at h2
  simp only [Option.map_some, Option.some.injEq, Prod.mk.injEq, true_and] at h2
  refine ⟨h2, (v, H2), ?_, rfl, rfl⟩
  rw [floats_step hf σ H H2, h1]
  rfl

/-- For each place in the tail: the loads of the first that may still be to come there. -/
def flOf (ops : Array Oper) (ms : List MOper) (nU : Nat) : List (List MOper) :=
  let b := befL ops.toList []
  let l := (List.range (ops.size - nU + 1)).map fun j => (List.range nU).filterMap fun k => (ms[k]?).bind fun m =>
    if isLd m = true ∧ (List.range ops.size).any (fun i => decide (nU ≤ i) && !(b.getD i 0).testBit k) = true ∧ (List.range j).all (fun i => !(b.getD (nU + i) 0).testBit k) = true then some m else none
  if l.all (·.isEmpty) = true then [] else l

theorem mem_flOf {ops : Array Oper} {ms : List MOper} {nU k j i : Nat} {m : MOper} (hk : k < nU) (hm : ms[k]? = some m) (hl : isLd m = true) (hi : nU ≤ i) (hin : i < ops.size) (hb : ((befL ops.toList []).getD i 0).testBit k = false)
    (hj : nU + j ≤ ops.size) (hjb : ∀ i, i < j → ((befL ops.toList []).getD (nU + i) 0).testBit k = false) : m ∈ ((flOf ops ms nU).drop j).headD [] := by
  unfold flOf
  let l := (List.range (ops.size - nU + 1)).map fun j => (List.range nU).filterMap fun k => (ms[k]?).bind fun m =>
    if isLd m = true ∧ (List.range ops.size).any (fun i => decide (nU ≤ i) && !((befL ops.toList []).getD i 0).testBit k) = true ∧ (List.range j).all (fun i => !((befL ops.toList []).getD (nU + i) 0).testBit k) = true then some m else none
  show m ∈ ((if l.all (·.isEmpty) = true then [] else l).drop j).headD []
  have hget : ∃ x, l[j]? = some x ∧ m ∈ x := by
    refine ⟨_, by simp only [l, List.getElem?_map, List.getElem?_range (show j < ops.size - nU + 1 by omega), Option.map_some]; rfl, ?_⟩
    rw [List.mem_filterMap]
    refine ⟨k, List.mem_range.2 hk, ?_⟩
    rw [hm]
    simp only [Option.bind_some]
    rw [if_pos]
    refine ⟨hl, ?_, ?_⟩
    · rw [List.any_eq_true]
      exact ⟨i, List.mem_range.2 hin, by rw [hb]; simpa using hi⟩
    · rw [List.all_eq_true]
      intro q hq
      rw [hjb q (List.mem_range.1 hq)]
      rfl
  obtain ⟨x, h1, h2⟩ := hget
  have hne : ¬ l.all (·.isEmpty) = true := by
    intro h
    rw [List.all_eq_true] at h
    have := h x (List.mem_of_getElem? h1)
    rw [List.isEmpty_iff] at this
    rw [this] at h2
    simp at h2
  rw [if_neg hne]
  have : (l.drop j).headD [] = x := by
    obtain ⟨hlt, he⟩ := List.getElem?_eq_some_iff.1 h1
    rw [List.drop_eq_getElem_cons hlt, he]
    rfl
  rw [this]
  exact h2

def okDraw (ops : Array Oper) (ms : List MOper) (nU : Nat) : Bool :=
  let n := ops.size
  let b := befL ops.toList []
  let D (i : Nat) : Option Nat := (ops[i]?).bind (·.dst)
  decide (nU ≤ n) &&
  (List.range n).all (fun i => ((ops[i]?).map fun o => o.after.toList.all fun e => !Region.binds .any e || decide (e.on < i)).getD true) &&
  (List.range n).all (fun j => decide (j < nU) || (List.range j).all fun k => (b.getD j 0).testBit k || (decide (k < nU) && floatOk ms k j)) &&
  (List.range nU).all (fun i => ((ms[i]?).map fun m => (m.reads ++ (m.guard.toList.map (·.1))).all fun t => (List.range nU).all fun j => decide (D j ≠ some t) || (decide (j < i) && (b.getD i 0).testBit j)).getD true) &&
  (List.range nU).all (fun i => (List.range nU).all fun j => decide (i = j) || decide (D i = none) || decide (D i ≠ D j))

theorem foldl_bits {acc : List Nat} : ∀ (es : List Edge) (s k : Nat), (es.foldl (fun s e => if Region.binds .any e then s ||| 2 ^ e.on ||| acc.getD e.on 0 else s) s).testBit k = true →
    s.testBit k = true ∨ ∃ e ∈ es, Region.binds .any e = true ∧ (k = e.on ∨ (acc.getD e.on 0).testBit k = true)
  | [], s, k, h => .inl h
  | e :: es, s, k, h => by
    rw [List.foldl_cons] at h
    rcases foldl_bits es _ k h with h1 | ⟨e', m, h1, h2⟩
    · split at h1
      · rename_i hb
        rw [Nat.testBit_or, Nat.testBit_or, Bool.or_eq_true, Bool.or_eq_true] at h1
        rcases h1 with (h1 | h1) | h1
        · exact .inl h1
        · rw [Nat.testBit_two_pow] at h1
          exact .inr ⟨e, by simp, hb, .inl (by simpa using (of_decide_eq_true h1).symm)⟩
        · exact .inr ⟨e, by simp, hb, .inr h1⟩
      · exact .inl h1
    · exact .inr ⟨e', by simp [m], h1, h2⟩

/-- A set of operations that holds with each those that go before it. -/
def Closed (ops : Array Oper) (S : Nat → Prop) : Prop := ∀ i o, S i → ops[i]? = some o → ∀ e ∈ o.after.toList, Region.binds .any e = true → S e.on

theorem bef_ok (ops : Array Oper) (S : Nat → Prop) (hS : Closed ops S) : ∀ (l : List Oper) (acc : List Nat), (∀ j, l[j]? = ops[acc.length + j]?) →
    (∀ i o, i < acc.length → ops[i]? = some o → (∀ e ∈ o.after.toList, Region.binds .any e = true → S e.on) → ∀ k, (acc.getD i 0).testBit k = true → S k) →
    ∀ i o, ops[i]? = some o → (∀ e ∈ o.after.toList, Region.binds .any e = true → S e.on) → ∀ k, ((befL l acc).getD i 0).testBit k = true → S k
  | [], acc, hl, hacc, i, o, ho, he, k, hk => by
    by_cases h : i < acc.length
    · exact hacc i o h ho he k hk
    · simp only [befL] at hk
      rw [List.getD_eq_getElem?_getD, List.getElem?_eq_none (by omega)] at hk
      simp at hk
  | p :: l, acc, hl, hacc, i, o, ho, he, k, hk => by
    have hp : ops[acc.length]? = some p := by simpa using (hl 0).symm
    refine bef_ok ops S hS l (acc ++ [befM acc p]) (fun j => ?_) (fun i' o' hi' ho' he' k' hk' => ?_) i o ho he k hk
    · have := hl (j + 1)
      simp only [List.getElem?_cons_succ] at this
      rw [this]
      simp only [List.length_append, List.length_cons, List.length_nil]
      congr 1
      omega
    · simp only [List.length_append, List.length_cons, List.length_nil] at hi'
      by_cases hlt : i' < acc.length
      · rw [List.getD_eq_getElem?_getD, List.getElem?_append_left hlt, ← List.getD_eq_getElem?_getD] at hk'
        exact hacc i' o' hlt ho' he' k' hk'
      · have : i' = acc.length := by omega
        subst this
        rw [hp] at ho'
        cases ho'
        rw [List.getD_eq_getElem?_getD, List.getElem?_append_right (by omega)] at hk'
        simp only [Nat.sub_self, List.getElem?_cons_zero, Option.getD_some, befM] at hk'
        rcases foldl_bits p.after.toList 0 k' hk' with h1 | ⟨e, m, h1, h2 | h2⟩
        · simp at h1
        · rw [h2]; exact he' e m h1
        · have hSe := he' e m h1
          by_cases hle : e.on < acc.length
          · obtain ⟨q, hq⟩ : ∃ q, ops[e.on]? = some q := by
              have hlt : e.on < ops.size := by
                have := (Array.getElem?_eq_some_iff.1 hp).1; omega
              exact ⟨ops[e.on], by simp [hlt]⟩
            exact hacc e.on q hle hq (fun e' m' b' => hS e.on q hSe hq e' m' b') k' h2
          · rw [List.getD_eq_getElem?_getD, List.getElem?_eq_none (by omega)] at h2
            simp at h2

theorem cmpOpers_get {P : Program} {N : Nat} {ops : Array Oper} : ∀ {l : List Oper} {ms : List MOper}, cmpOpers P N ops l = some ms → ms.length = l.length ∧ ∀ (i : Nat) o, l[i]? = some o → ∃ m, ms[i]? = some m ∧ cmpOper P N ops o = some m
  | [], ms, h => by simp only [cmpOpers, Option.some.injEq] at h; subst h; simp
  | o :: l, ms, h => by
    simp only [cmpOpers, Option.bind_eq_some_iff, Option.some.injEq] at h
    obtain ⟨m, h1, ms', h2, rfl⟩ := h
    obtain ⟨k1, k2⟩ := cmpOpers_get h2
    refine ⟨by simp [k1], fun i p hp => ?_⟩
    cases i with
    | zero => simp at hp; subst hp; exact ⟨m, by simp, h1⟩
    | succ i => simp at hp; obtain ⟨m', a, b⟩ := k2 i p hp; exact ⟨m', by simpa using a, b⟩

/-- The unlisted. -/
def unl (n : Nat) (listed : Array Bool) : List Nat := (List.range n).filter fun j => !listed.getD j true

theorem unl_set {n : Nat} {listed : Array Bool} {i : Nat} (hs : listed.size = n) (hi : i < n) (hl : listed.getD i true = false) : (unl n (listed.setIfInBounds i true)).length + 1 = (unl n listed).length := by
  have e : unl n (listed.setIfInBounds i true) = (unl n listed).erase i := by
    have hnd : (unl n listed).Nodup := List.Pairwise.filter _ List.nodup_range
    rw [List.Nodup.erase_eq_filter hnd]
    unfold unl
    rw [List.filter_filter]
    apply List.filter_congr
    intro j hj
    have hjn := List.mem_range.1 hj
    by_cases e : i = j
    · subst e
      simp [Array.getD_eq_getD_getElem?, hs, hi]
    · simp [Array.getD_eq_getD_getElem?, Array.getElem?_setIfInBounds_ne e, Ne.symm e]
  have hm : i ∈ unl n listed := by
    unfold unl
    rw [List.mem_filter]
    exact ⟨List.mem_range.2 hi, by rw [hl]; rfl⟩
  rw [e, List.length_erase_of_mem hm]
  have := List.length_pos_of_mem hm
  omega


section
variable {P : Program} {C : CallR} {N n : Nat} {Dm : List Deferred} {ro : Option Nat}

set_option maxHeartbeats 2000000 in
theorem draw_sound (hC : COk P C) {ops : Array Oper} {ms : List MOper} (hms : cmpOpers P N ops ops.toList = some ms) {nU : Nat} (hok : okDraw ops ms nU = true) {X0 X : Ctx} {w0 w : World} {a : Act} {σ : Env} {H : Heap}
    (hs : Stp X0 w0 X w) (hH : HRel X H w) (hA : ARel N Dm X w σ a) {K : Env → Heap → Prop} (hK : wpU C (ms.take nU) σ H fun σ H => wpT C (flOf ops ms nU) (ms.drop nU) σ H K) {Q : Exit → Act → World → Prop}
    (hQ : ∀ σ H X w a, K σ H → Stp X0 w0 X w → HRel X H w → ARel N Dm X w σ a → Q .normal a w) : wpAnyIn (fen ro) n P .any ops Q ops.size (Array.replicate ops.size false) a w := by
  simp only [okDraw, Bool.and_eq_true, List.all_eq_true, List.mem_range, decide_eq_true_eq, Bool.or_eq_true] at hok
  obtain ⟨⟨⟨⟨hnU, hback⟩, htail⟩, hreads⟩, hdist⟩ := hok
  obtain ⟨hml, hmg⟩ := cmpOpers_get hms
  simp only [Array.length_toList] at hml
  have hmg' : ∀ i o, ops[i]? = some o → ∃ m, ms[i]? = some m ∧ cmpOper P N ops o = some m := fun i o h => hmg i o (by simpa using h)
  let D : Nat → Option Nat := fun i => (ops[i]?).bind (·.dst)
  obtain ⟨cs, Hs, hH0, htr, hKU⟩ := trace_of hK
  have hul : (ms.take nU).length = nU := by simp; omega
  rw [hul] at hKU
  have hp : ∀ i, i < nU → ∃ N, Hs (i + 1) = Hs i ++ N := by
    intro i hi
    obtain ⟨m, hm⟩ : ∃ m, (ms.take nU)[i]? = some m := ⟨ms[i]'(by omega), by rw [List.getElem?_take, if_pos hi, List.getElem?_eq_getElem (by omega)]⟩
    exact (htr i m hm).2
  have hget : ∀ i, i < ops.size → ∃ o, ops[i]? = some o := fun i hi => ⟨ops[i], by simp [hi]⟩
  have hDu : ∀ i, i < nU → (ms.take nU)[i]?.bind (·.dst) = D i := by
    intro i hi
    obtain ⟨o, ho⟩ := hget i (by omega)
    obtain ⟨m, h1, h2⟩ := hmg' i o ho
    rw [List.getElem?_take, if_pos hi, h1]
    simp only [Option.bind_some, D, ho]
    exact (cmpOper_guard h2).1
  have hDge : ∀ i, nU ≤ i → (ms.take nU)[i]?.bind (·.dst) = none := by
    intro i hi
    rw [List.getElem?_eq_none (by omega)]; rfl
  have hdst : ∀ i j, i < nU → j < nU → i ≠ j → ∀ t, D i = some t → D j ≠ some t := by
    intro i j hi hj hne t h1 h2
    rcases hdist i hi j hj with (h | h) | h
    · exact hne h
    · rw [show (ops[i]?).bind (·.dst) = D i from rfl, h1] at h; cases h
    · exact h (by rw [show (ops[i]?).bind (·.dst) = D i from rfl, show (ops[j]?).bind (·.dst) = D j from rfl, h1, h2])
  -- the set of the listed
  let S : Array Bool → Nat → Prop := fun listed j => listed.getD j false = true
  have bef : ∀ listed, Closed ops (S listed) → ∀ i o, ops[i]? = some o → (∀ e ∈ o.after.toList, Region.binds .any e = true → S listed e.on) → ∀ k, ((befL ops.toList []).getD i 0).testBit k = true → S listed k := fun listed hcl =>
    bef_ok ops (S listed) hcl ops.toList [] (by simp) (by simp)
  let Ph2 : Array Bool → Ctx → World → Act → Prop := fun listed X w a => ∃ j σ' H', nU ≤ j ∧ j ≤ ops.size ∧ (∀ i, nU ≤ i → (S listed i ↔ i < j)) ∧ Stp X0 w0 X w ∧ HRel X H' w ∧
    (a.tmps.size = N ∧ a.defers = Dm ∧ ∀ t, (∀ k, k < nU → ¬S listed k → D k ≠ some t) → VRel X w (σ'.get t) (a.tmps.getD t undef)) ∧
    (∀ k m, k < nU → ¬S listed k → ms[k]? = some m → (floats m.op = true ∨ (isLd m = true ∧ (∃ i0, nU ≤ i0 ∧ i0 < ops.size ∧ ((befL ops.toList []).getD i0 0).testBit k = false))) ∧ (∀ t ∈ slotsOf m, (EnvAt (ms.take nU) cs σ k).get t = σ'.get t) ∧ ∀ t, D k = some t → σ'.get t = cs k) ∧ wpT C ((flOf ops ms nU).drop (j - nU)) (ms.drop j) σ' H' K
  -- who writes what an operation of the first reads
  have hreads' : ∀ i m t, i < nU → ms[i]? = some m → t ∈ slotsOf m → ∀ j, j < nU → D j = some t → j < i ∧ ((befL ops.toList []).getD i 0).testBit j = true := by
    intro i m t hi hm ht j hj hDj
    have hr := hreads i hi
    rw [hm] at hr
    simp only [Option.map_some, Option.getD_some, List.all_eq_true, List.mem_range, Bool.or_eq_true, Bool.and_eq_true, decide_eq_true_eq] at hr
    rcases hr t ht j hj with h | h
    · exact absurd hDj h
    · exact h
  have envU : ∀ i t, i ≤ nU → (∀ j, j < nU → D j = some t → j < i) → (EnvAt (ms.take nU) cs σ i).get t = (EnvAt (ms.take nU) cs σ nU).get t := by
    intro i t hi hb
    by_cases hw : ∃ j, j < nU ∧ D j = some t
    · obtain ⟨j, hj, hDj⟩ := hw
      rw [envAt_some (by rw [hDu j hj]; exact hDj) i (hb j hj hDj) (fun k hk1 hk2 => by rw [hDu k (by omega)]; exact hdst j k hj (by omega) (by omega) t hDj),
        envAt_some (by rw [hDu j hj]; exact hDj) nU hj (fun k hk1 hk2 => by rw [hDu k hk2]; exact hdst j k hj hk2 (by omega) t hDj)]
    · have hnone : ∀ j, j < nU → D j ≠ some t := fun j hj e => hw ⟨j, hj, e⟩
      rw [envAt_none i (fun k hk => by rw [hDu k (by omega)]; exact hnone k (by omega)), envAt_none nU (fun k hk => by rw [hDu k hk]; exact hnone k hk)]
  have conv12 : ∀ listed X w a, (∀ j, nU ≤ j → ¬S listed j) → DInv N nU Dm X0 w0 D σ cs Hs (S listed) X w a → (∀ k m, k < nU → ¬S listed k → ms[k]? = some m → floats m.op = true ∨ (isLd m = true ∧ (∃ i0, nU ≤ i0 ∧ i0 < ops.size ∧ ((befL ops.toList []).getD i0 0).testBit k = false))) → Ph2 listed X w a := by
    intro listed X w a hno hinv hfl
    refine ⟨nU, EnvAt (ms.take nU) cs σ nU, Hs nU, Nat.le_refl _, hnU, fun k hk => ⟨fun h => absurd h (hno k hk), fun h => by omega⟩, hinv.stp, ?_, ⟨hinv.size, hinv.defers, fun t ht => ?_⟩, fun k m hk hn hm => ⟨hfl k m hk hn hm, fun t ht => ?_, fun t ht => ?_⟩, by rw [Nat.sub_self, List.drop_zero]; exact hKU⟩
    · refine ⟨fun r bi hr => ?_, hinv.inj, hinv.own, hinv.old, Nat.le_trans hinv.top (hs_len hp (by omega) (Nat.le_refl _))⟩
      obtain ⟨b, k1, k2, _⟩ := hinv.blk r bi hr
      exact ⟨b, k1, k2⟩
    · by_cases hw : ∃ j, j < nU ∧ D j = some t
      · obtain ⟨j, hj, hDj⟩ := hw
        have hSj : S listed j := Classical.byContradiction fun hn => ht j hj hn hDj
        rw [envAt_some (by rw [hDu j hj]; exact hDj) nU hj (fun k hk1 hk2 => by rw [hDu k hk2]; exact hdst j k hj hk2 (by omega) t hDj)]
        exact (hinv.fr1 j t hSj hj hDj).1
      · have hnone : ∀ j, j < nU → D j ≠ some t := fun j hj e => hw ⟨j, hj, e⟩
        rw [envAt_none nU (fun k hk => by rw [hDu k hk]; exact hnone k hk)]
        exact (hinv.fr0 t fun j hj _ => hnone j hj).1
    · exact envU k t (by omega) fun j hj hDj => (hreads' k m t hk hm ht j hj hDj).1
    · exact envAt_some (by rw [hDu k hk]; exact ht) nU hk (fun q hk1 hk2 => by rw [hDu q hk2]; exact hdst k q hk hk2 (by omega) t ht)
  have mk : ∀ fuel listed X w a, listed.size = ops.size → (unl ops.size listed).length = fuel → Closed ops (S listed) →
      (((∀ j, nU ≤ j → ¬S listed j) ∧ DInv N nU Dm X0 w0 D σ cs Hs (S listed) X w a) ∨ Ph2 listed X w a) → wpAnyIn (fen ro) n P .any ops Q fuel listed a w := by
    intro fuel
    induction fuel with
    | zero =>
      intro listed X w a hsz hun hcl hst
      have hall : ∀ i, i < ops.size → S listed i := by
        intro i hi
        have : i ∉ unl ops.size listed := by rw [List.eq_nil_of_length_eq_zero hun]; simp
        unfold unl at this
        rw [List.mem_filter] at this
        simp only [List.mem_range, hi, true_and] at this
        simp only [S]
        rw [Array.getD_eq_getD_getElem?, Array.getElem?_eq_getElem (by omega)] at this ⊢
        simpa using this
      refine ⟨?_, ?_⟩
      · unfold Region.ready
        rw [List.filter_eq_nil_iff]
        intro i hi
        have hi' := List.mem_range.1 hi
        have := hall i hi'
        simp only [S] at this
        rw [Array.getD_eq_getD_getElem?, Array.getElem?_eq_getElem (by omega)] at this
        simp only [Option.getD_some] at this
        simp [Array.getD_eq_getD_getElem?, hsz, hi', this]
      · have hP : Ph2 listed X w a := by
          rcases hst with ⟨hno, hinv⟩ | h
          · exact conv12 listed X w a hno hinv fun k m hk hn _ => absurd (hall k (by omega)) hn
          · exact h
        obtain ⟨j, σ', H', h1, h2, h3, h4, h5, ⟨hz, hdf, h6⟩, _, h7⟩ := hP
        have hj : j = ops.size := by
          by_cases h : j < ops.size
          · have := (h3 j h1).1 (hall j h); omega
          · omega
        rw [show ms.drop j = [] from List.drop_eq_nil_of_le (by omega)] at h7
        exact hQ σ' H' X w a h7.2 h4 h5 ⟨fun t => h6 t fun k hk hn => absurd (hall k (by omega)) hn, hz, hdf⟩
    | succ fuel ih =>
      intro listed X w a hsz hun hcl hst
      -- who may go next
      have hready : ∀ i, i ∈ Region.ready .any ops listed ↔ i < ops.size ∧ ¬S listed i ∧ ∃ o, ops[i]? = some o ∧ ∀ e ∈ o.after.toList, Region.binds .any e = true → S listed e.on := by
        intro i
        unfold Region.ready
        rw [List.mem_filter, List.mem_range]
        constructor
        · rintro ⟨hi, h⟩
          simp only [Bool.and_eq_true, Bool.not_eq_true'] at h
          obtain ⟨o, ho⟩ := hget i hi
          refine ⟨hi, ?_, o, ho, fun e he hb => ?_⟩
          · have := h.1
            simp only [S]
            rw [Array.getD_eq_getD_getElem?, Array.getElem?_eq_getElem (by omega)] at this ⊢
            simpa using this
          · have h2 := h.2
            rw [ho] at h2
            simp only [Option.map_some, Option.getD_some, Array.all_eq_true_iff_forall_mem] at h2
            have := h2 e (by simpa using he)
            rw [hb] at this
            simpa [S] using this
        · rintro ⟨hi, hn, o, ho, h⟩
          refine ⟨hi, ?_⟩
          simp only [Bool.and_eq_true, Bool.not_eq_true', ho, Option.map_some, Option.getD_some, Array.all_eq_true_iff_forall_mem]
          refine ⟨?_, fun e he => ?_⟩
          · simp only [S] at hn
            rw [Array.getD_eq_getD_getElem?, Array.getElem?_eq_getElem (by omega)] at hn ⊢
            simpa using hn
          · cases hb : Region.binds .any e
            · simp
            · have := h e (by simpa using he) hb
              simpa [S] using this
      refine ⟨fun hnil => ?_, fun i hi => ?_⟩
      · -- nobody: then all are listed
        exfalso
        have hpos : ∃ i, i ∈ unl ops.size listed := by
          cases h : unl ops.size listed with
          | nil => rw [h] at hun; simp at hun
          | cons x xs => exact ⟨x, by simp⟩
        have hex : ∃ i, i < ops.size ∧ ¬S listed i := by
          obtain ⟨i, hi⟩ := hpos
          unfold unl at hi
          rw [List.mem_filter, List.mem_range] at hi
          refine ⟨i, hi.1, ?_⟩
          have := hi.2
          simp only [S]
          rw [Array.getD_eq_getD_getElem?, Array.getElem?_eq_getElem (by omega)] at this ⊢
          simpa using this
        -- the least of them may go
        have least : ∀ m i, i < ops.size → ¬S listed i → i ≤ m → ∃ k, k ∈ Region.ready .any ops listed := by
          intro m
          induction m with
          | zero =>
            intro i hi hn hm
            obtain ⟨o, ho⟩ := hget i hi
            refine ⟨i, (hready i).2 ⟨hi, hn, o, ho, fun e he hb => ?_⟩⟩
            have := hback i hi
            rw [ho] at this
            simp only [Option.map_some, Option.getD_some, List.all_eq_true, Bool.or_eq_true, Bool.not_eq_true', decide_eq_true_eq] at this
            rcases this e he with h | h
            · rw [hb] at h; cases h
            · omega
          | succ m ihm =>
            intro i hi hn hm
            obtain ⟨o, ho⟩ := hget i hi
            by_cases hall : ∀ e ∈ o.after.toList, Region.binds .any e = true → S listed e.on
            · exact ⟨i, (hready i).2 ⟨hi, hn, o, ho, hall⟩⟩
            · simp only [Classical.not_forall] at hall
              obtain ⟨e, he, hb, hne⟩ := hall
              have := hback i hi
              rw [ho] at this
              simp only [Option.map_some, Option.getD_some, List.all_eq_true, Bool.or_eq_true, Bool.not_eq_true', decide_eq_true_eq] at this
              rcases this e he with h | h
              · rw [hb] at h; cases h
              · exact ihm e.on (by omega) hne (by omega)
        obtain ⟨i, hi, hn⟩ := hex
        obtain ⟨k, hk⟩ := least i i hi hn (Nat.le_refl _)
        rw [hnil] at hk
        simp at hk
      · obtain ⟨hin, hnS, o, ho, hpre⟩ := (hready i).1 hi
        have hbef := bef listed hcl i o ho hpre
        have hlf : listed.getD i true = false := by
          simp only [S] at hnS
          rw [Array.getD_eq_getD_getElem?, Array.getElem?_eq_getElem (by omega)] at hnS ⊢
          simpa using hnS
        have hsz' : (listed.setIfInBounds i true).size = ops.size := by simpa using hsz
        have hun' : (unl ops.size (listed.setIfInBounds i true)).length = fuel := by have := unl_set hsz hin hlf; omega
        have hS' : ∀ j, S (listed.setIfInBounds i true) j ↔ S listed j ∨ j = i := by
          intro j
          simp only [S]
          by_cases e : i = j
          · subst e; simp [Array.getD_eq_getD_getElem?, hsz, hin]
          · simp [Array.getD_eq_getD_getElem?, Array.getElem?_setIfInBounds_ne e, Ne.symm e]
        have hcl' : Closed ops (S (listed.setIfInBounds i true)) := by
          intro j p hj hp e he hb
          rw [hS'] at hj ⊢
          rcases hj with hj | rfl
          · exact .inl (hcl j p hj hp e he hb)
          · rw [ho] at hp; cases hp; exact .inl (hpre e he hb)
        obtain ⟨m, hm1, hm2⟩ := hmg' i o ho
        obtain ⟨gd1, gd2, hgd⟩ := cmpOper_guard hm2
        have hDi : D i = o.dst := by simp [D, ho]
        unfold Go.wpOpIn
        rw [ho]
        simp only
        -- what is not ahead of an operation of the tail floats
        have hfloat : nU ≤ i → ∀ k mk, k < nU → ¬S listed k → ms[k]? = some mk → (floats mk.op = true ∨ (isLd mk = true ∧ (∃ i0, nU ≤ i0 ∧ i0 < ops.size ∧ ((befL ops.toList []).getD i0 0).testBit k = false))) ∧ (∀ t, mk.dst = some t → t ∉ slotsOf m ∧ m.dst ≠ some t) ∧ (∀ t, m.dst = some t → t ∉ slotsOf mk) := by
          intro hge k mk hk hn hmk
          rcases htail i hin with h | h
          · omega
          · rcases h k (by omega) with h | ⟨_, h⟩
            · exact absurd (hbef k h) hn
            · obtain ⟨q1, q2⟩ := floatOk_ok h hmk hm1
              refine ⟨?_, q2⟩
              rcases q1 with q | q
              · exact .inl q
              · refine .inr ⟨q, i, hge, hin, ?_⟩
                cases hb : ((befL ops.toList []).getD i 0).testBit k
                · rfl
                · exact absurd (hbef k hb) hn
        by_cases hph : (∀ j, nU ≤ j → ¬S listed j) ∧ DInv N nU Dm X0 w0 D σ cs Hs (S listed) X w a ∧ i < nU
        · obtain ⟨hno, hinv, hiU⟩ := hph
          have htri := htr i m (by rw [List.getElem?_take, if_pos hiU]; exact hm1)
          have hread : ∀ t, (t ∈ m.reads ∨ ∃ pol, m.guard = some (t, pol)) → VRel (X.cut (Hs i).length) w ((EnvAt (ms.take nU) cs σ i).get t) (a.tmps.getD t undef) := by
            intro t ht
            have hr := hreads i hiU
            rw [hm1] at hr
            simp only [Option.map_some, Option.getD_some, List.all_eq_true, List.mem_append, List.mem_map, Option.mem_toList, List.mem_range, Bool.or_eq_true, Bool.and_eq_true, decide_eq_true_eq] at hr
            have hr' := hr t (by rcases ht with h | ⟨pol, h⟩
                                 · exact .inl h
                                 · exact .inr ⟨(t, pol), h, rfl⟩)
            by_cases hw : ∃ j, j < nU ∧ D j = some t
            · obtain ⟨j, hj, hDj⟩ := hw
              rcases hr' j hj with h | ⟨h, hb⟩
              · exact absurd hDj h
              · have hSj := hbef j hb
                obtain ⟨k1, k2⟩ := hinv.fr1 j t hSj hj hDj
                rw [envAt_some (by rw [hDu j hj]; exact hDj) i h (fun k hk1 hk2 => by rw [hDu k (by omega)]; exact hdst j k hj (by omega) (by omega) t hDj)]
                exact k1.cut (k2.mono (hs_len hp (by omega) (by omega)))
            · have hnone : ∀ j, j < nU → D j ≠ some t := fun j hj e => hw ⟨j, hj, e⟩
              obtain ⟨k1, k2⟩ := hinv.fr0 t fun j hj _ => hnone j hj
              rw [envAt_none i (fun k hk => by rw [hDu k (by omega)]; exact hnone k (by omega))]
              exact k1.cut (k2.mono (hs_len hp (by omega) (by omega)))
          have hHi := hinv.hrel hp (i := i) (by omega)
          -- what holds behind it
          have behind : ∀ {X1 : Ctx} {w1 : World} {v : Value}, VRel X1 w1 (cs i) v → HRel X1 (Hs (i + 1)) w1 → Stp (X.cut (Hs i).length) w X1 w1 → wpAnyIn (fen ro) n P .any ops Q fuel (listed.setIfInBounds i true) (a.put o.dst v) w1 := by
            intro X1 w1 v hv hH1 hs1
            obtain ⟨X', hinv'⟩ := hinv.ran hp hiU hnS (fun j hj hne t h => hdst i j hiU hj (Ne.symm hne) t h) (by rw [hDi]; exact gd2) hv hH1 hs1
            rw [hDi] at hinv'
            have hfun : (fun j => S listed j ∨ j = i) = S (listed.setIfInBounds i true) := by funext j; exact propext (hS' j).symm
            rw [hfun] at hinv'
            refine ih _ X' w1 _ hsz' hun' hcl' ?_
            refine .inl ⟨fun j hj hSj => ?_, hinv'⟩
            rcases (hS' j).1 hSj with h | h
            · exact hno j hj h
            · omega
          have run : wpOp C ((EnvAt (ms.take nU) cs σ i).keep m.reads) (Hs i) m.op (fun v K => v = cs i ∧ K = Hs (i + 1)) → o.wpIn (fen ro) n P a w (wpAnyIn (fen ro) n P .any ops Q fuel (listed.setIfInBounds i true)) Q := by
            intro hw
            have hfr : FRel (X.cut (Hs i).length) w ((EnvAt (ms.take nU) cs σ i).keep m.reads) a.tmps := by
              intro t
              rw [get_keep]
              split
              · rename_i ht; exact hread t (.inl ht)
              · exact .undef
            refine oper_sound hC hm2 hHi (σ := []) ⟨fun t => .undef, hinv.size, hinv.defers⟩ hfr hw ?_
            rintro v H' X1 w1 v' ⟨rfl, rfl⟩ k1 k2 k3 _
            exact behind k1 k2 k3
          have htr1 := htri.1
          unfold stepTo at htr1
          rcases hgd with ⟨g1, g2⟩ | ⟨t, j, pol, g1, g2, g3⟩
          · rw [g1] at htr1
            rw [if_pos (by simp [Region.wanted, g2])]
            exact run htr1
          · rw [g1] at htr1
            have hbt := hread t (.inr ⟨pol, g1⟩)
            rcases htr1 with ⟨hb, e1, e2⟩ | ⟨b, hb, k1, k2⟩
            · rw [hb] at hbt
              have hy := yielded_none g3 (tup0_of_rel hbt)
              rw [if_neg (by simp [Region.wanted, g2, hy])]
              refine ⟨fen_about, ?_⟩
              exact behind (by rw [e1]; exact tup0_rel) (by rw [e2]; exact hHi) (Stp.refl _ _)
            rw [hb] at hbt
            have hy := yielded_ok g3 (bool_of_rel hbt)
            by_cases hbp : b = pol
            · rw [if_pos (by simp [Region.wanted, g2, hy, hbp])]
              exact run (k1 hbp)
            · rw [if_neg (by simp [Region.wanted, g2, hy, hbp])]
              refine ⟨fen_about, ?_⟩
              obtain ⟨e1, e2⟩ := k2 (by cases b <;> cases pol <;> simp_all)
              exact behind (by rw [e1]; exact tup0_rel) (by rw [e2]; exact hHi) (Stp.refl _ _)
        · have hP : Ph2 listed X w a := by
            rcases hst with ⟨hno, hinv⟩ | h
            · have hge : nU ≤ i := Nat.le_of_not_lt fun h => hph ⟨hno, hinv, h⟩
              exact conv12 listed X w a hno hinv fun k mk hk hn hmk => (hfloat hge k mk hk hn hmk).1
            · exact h
          obtain ⟨j, σ', H', h1, h2, h3, h4, h5, ⟨hz, hdf, h6⟩, h8, h7⟩ := hP
          have hput : ∀ (v' : Value) t, (a.put o.dst v').tmps.getD t undef = if o.dst = some t then v' else a.tmps.getD t undef := by
            intro v' t
            cases hdi : o.dst with
            | none => simp [Act.put]
            | some d =>
              rw [hdi] at gd2
              have hd' : d < N := by simpa [dstOk] using gd2
              by_cases e : d = t
              · subst e; simp [Act.put, Array.getD_eq_getD_getElem?, hz, hd']
              · simp [Act.put, Array.getD_eq_getD_getElem?, Array.getElem?_setIfInBounds_ne e, e]
          have hz' : ∀ v' : Value, (a.put o.dst v').tmps.size = N ∧ (a.put o.dst v').defers = Dm := by
            intro v'
            cases o.dst <;> simp [Act.put, hz, hdf]
          by_cases hiU : i < nU
          · -- one that floats
            obtain ⟨hf, hE1, hE2⟩ := h8 i m hiU hnS hm1
            have htri := htr i m (by rw [List.getElem?_take, if_pos hiU]; exact hm1)
            have hread : ∀ t ∈ slotsOf m, VRel X w ((EnvAt (ms.take nU) cs σ i).get t) (a.tmps.getD t undef) := by
              intro t ht
              rw [hE1 t ht]
              refine h6 t fun k hk hn hDk => hn (hbef k ?_)
              exact (hreads' i m t hiU hm1 ht k hk hDk).2
            have behind : ∀ {X1 : Ctx} {w1 : World} {v' : Value}, VRel X1 w1 (cs i) v' → HRel X1 H' w1 → Stp X w X1 w1 → wpAnyIn (fen ro) n P .any ops Q fuel (listed.setIfInBounds i true) (a.put o.dst v') w1 := by
              intro X1 w1 v' hv hH1 s1
              refine ih _ X1 w1 _ hsz' hun' hcl' (.inr ⟨j, σ', H', h1, h2, fun k hk => ?_, h4.trans s1, hH1, ⟨(hz' v').1, (hz' v').2, fun t ht => ?_⟩, fun k mk hk hn hmk => h8 k mk hk (fun h => hn ((hS' k).2 (.inl h))) hmk, h7⟩)
              · rw [hS', ← h3 k hk]
                constructor
                · rintro (h | h)
                  · exact h
                  · omega
                · exact .inl
              · rw [hput]
                by_cases e : o.dst = some t
                · rw [if_pos e, hE2 t (by rw [hDi]; exact e)]
                  exact hv
                · rw [if_neg e]
                  refine (h6 t fun k hk hn hDk => ?_).step h5 s1
                  by_cases hki : k = i
                  · subst hki; rw [hDi] at hDk; exact e hDk
                  · exact ht k hk (fun h => by rcases (hS' k).1 h with h | h; exact hn h; exact hki h) hDk
            have run : wpOp C ((EnvAt (ms.take nU) cs σ i).keep m.reads) (Hs i) m.op (fun v K => v = cs i ∧ K = Hs (i + 1)) → o.wpIn (fen ro) n P a w (wpAnyIn (fen ro) n P .any ops Q fuel (listed.setIfInBounds i true)) Q := by
              intro hw
              have hw' : wpOp C ((EnvAt (ms.take nU) cs σ i).keep m.reads) H' m.op (fun v K => v = cs i ∧ K = H') := by
                rcases hf with hf | ⟨hl, i0, z1, z2, z3⟩
                · exact (floats_wp (H2 := H') hf hw).2
                · have hfo : flOk (((flOf ops ms nU).drop (j - nU)).headD []) σ' H' := by
                    generalize ms.drop j = os at h7
                    cases os with
                    | nil => exact h7.1
                    | cons o2 os => exact h7.1
                  have hmem : m ∈ ((flOf ops ms nU).drop (j - nU)).headD [] := by
                    refine mem_flOf hiU hm1 hl z1 z2 z3 (by omega) fun q hq => ?_
                    cases hb : ((befL ops.toList []).getD (nU + q) 0).testBit i
                    · rfl
                    · exfalso
                      have hSq : S listed (nU + q) := (h3 (nU + q) (by omega)).2 (by omega)
                      obtain ⟨oq, hoq⟩ := hget (nU + q) (by omega)
                      exact hnS (bef listed hcl (nU + q) oq hoq (fun e he hb => hcl (nU + q) oq hSq hoq e he hb) i hb)
                  obtain ⟨d, agg, ad, q1, q2, q3⟩ := hfo m hmem
                  have hke : (EnvAt (ms.take nU) cs σ i).keep m.reads = σ'.keep m.reads := by
                    unfold Env.keep
                    apply List.map_congr_left
                    intro t ht
                    rw [hE1 t (by simp [slotsOf, ht])]
                  rw [hke, q2]
                  have hcs : σ'.get d = cs i := hE2 d (by rw [hDi, ← gd1]; exact q1)
                  exact ⟨(cs i, H'), by simp only [stepOp, q3, Option.bind_some, hcs], rfl, rfl⟩
              have hfr : FRel X w ((EnvAt (ms.take nU) cs σ i).keep m.reads) a.tmps := by
                intro t
                rw [get_keep]
                split
                · rename_i ht; exact hread t (by simp [slotsOf, ht])
                · exact .undef
              refine oper_sound hC hm2 h5 (σ := []) ⟨fun t => .undef, hz, hdf⟩ hfr hw' ?_
              rintro v H1 X1 w1 v' ⟨rfl, rfl⟩ k1 k2 k3 _
              exact behind k1 k2 k3
            have htr1 := htri.1
            unfold stepTo at htr1
            rcases hgd with ⟨g1, g2⟩ | ⟨t, j2, pol, g1, g2, g3⟩
            · rw [g1] at htr1
              rw [if_pos (by simp [Region.wanted, g2])]
              exact run htr1
            · rw [g1] at htr1
              have hbt := hread t (by simp [slotsOf, g1])
              rcases htr1 with ⟨hb, e1, e2⟩ | ⟨b, hb, k1, k2⟩
              · rw [hb] at hbt
                have hy := yielded_none g3 (tup0_of_rel hbt)
                rw [if_neg (by simp [Region.wanted, g2, hy])]
                refine ⟨fen_about, ?_⟩
                exact behind (by rw [e1]; exact tup0_rel) h5 (Stp.refl _ _)
              rw [hb] at hbt
              have hy := yielded_ok g3 (bool_of_rel hbt)
              by_cases hbp : b = pol
              · rw [if_pos (by simp [Region.wanted, g2, hy, hbp])]
                exact run (k1 hbp)
              · rw [if_neg (by simp [Region.wanted, g2, hy, hbp])]
                refine ⟨fen_about, ?_⟩
                obtain ⟨e1, e2⟩ := k2 (by cases b <;> cases pol <;> simp_all)
                exact behind (by rw [e1]; exact tup0_rel) h5 (Stp.refl _ _)
          · -- in the order of the text
            have hge : nU ≤ i := by omega
            have hij : i = j := by
              have hgei : ¬ i < j := fun h => hnS ((h3 i hge).2 h)
              by_cases hgt : j < i
              · exfalso
                rcases htail i hin with h | h
                · omega
                · rcases h j hgt with h | ⟨h, _⟩
                  · have := (h3 j h1).1 (hbef j h); omega
                  · omega
              · omega
            subst hij
            have hdrop : ms.drop i = m :: ms.drop (i + 1) := by
              rw [List.drop_eq_getElem_cons (by omega)]
              congr 1
              have := List.getElem?_eq_getElem (l := ms) (i := i) (by omega)
              rw [hm1] at this
              exact (Option.some.inj this).symm
            rw [hdrop] at h7
            have hread : ∀ t ∈ slotsOf m, VRel X w (σ'.get t) (a.tmps.getD t undef) := by
              intro t ht
              refine h6 t fun k hk hn hDk => ?_
              obtain ⟨q, hq⟩ := hget k (by omega)
              obtain ⟨mk, hmk, hmk2⟩ := hmg' k q hq
              have : mk.dst = some t := by rw [(cmpOper_guard hmk2).1]; simpa [D, hq] using hDk
              exact ((hfloat hge k mk hk hn hmk).2.1 t this).1 ht
            have next : ∀ {X1 : Ctx} {w1 : World} {H1 : Heap} {v : AV} {v' : Value}, Stp X w X1 w1 → HRel X1 H1 w1 → VRel X1 w1 v v' → wpT C ((flOf ops ms nU).drop (i - nU)).tail (ms.drop (i + 1)) (σ'.put o.dst v) H1 K →
                wpAnyIn (fen ro) n P .any ops Q fuel (listed.setIfInBounds i true) (a.put o.dst v') w1 := by
              intro X1 w1 H1 v v' s1 hH1 hv hK1
              refine ih _ X1 w1 _ hsz' hun' hcl' (.inr ⟨i + 1, σ'.put o.dst v, H1, by omega, by omega, fun k hk => ?_, h4.trans s1, hH1, ⟨(hz' v').1, (hz' v').2, fun t ht => ?_⟩, fun k mk hk hn hmk => ?_, by rw [List.tail_drop] at hK1; rw [show i + 1 - nU = i - nU + 1 by omega]; exact hK1⟩)
              · rw [hS', h3 k hk]
                omega
              · rw [hput]
                by_cases e : o.dst = some t
                · rw [if_pos e, e]
                  simp only [Env.put, Env.get, if_true]
                  exact hv
                · rw [if_neg e, put_get_ne _ _ _ e]
                  exact (h6 t fun k hk hn hDk => ht k hk (fun h => by rcases (hS' k).1 h with h | h; exact hn h; omega) hDk).step h5 s1
              · have hn0 : ¬S listed k := fun h => hn ((hS' k).2 (.inl h))
                obtain ⟨f1, f2, f3⟩ := hfloat hge k mk hk hn0 hmk
                obtain ⟨e1, e2, e3⟩ := h8 k mk hk hn0 hmk
                refine ⟨f1, fun t ht => ?_, fun t ht => ?_⟩
                · rw [put_get_ne _ _ _ (fun e => f3 t (by rw [gd1]; exact e) ht)]
                  exact e2 t ht
                · have hmd : mk.dst = some t := by
                    obtain ⟨q, hq⟩ := hget k (by omega)
                    obtain ⟨mk', hmk', hmk2⟩ := hmg' k q hq
                    rw [hmk] at hmk'
                    cases hmk'
                    rw [(cmpOper_guard hmk2).1]
                    simpa [D, hq] using ht
                  rw [put_get_ne _ _ _ (fun e => (f2 t hmd).2 (by rw [gd1]; exact e))]
                  exact e3 t ht
            have run : wpOp C (σ'.keep m.reads) H' m.op (fun v H1 => wpT C ((flOf ops ms nU).drop (i - nU)).tail (ms.drop (i + 1)) (σ'.put m.dst v) H1 K) → o.wpIn (fen ro) n P a w (wpAnyIn (fen ro) n P .any ops Q fuel (listed.setIfInBounds i true)) Q := by
              intro hw
              have hfr : FRel X w (σ'.keep m.reads) a.tmps := by
                intro t
                rw [get_keep]
                split
                · rename_i ht; exact hread t (by simp [slotsOf, ht])
                · exact .undef
              refine oper_sound hC hm2 h5 (σ := []) ⟨fun t => .undef, hz, hdf⟩ hfr hw ?_
              intro v H1 X1 w1 v' hv k1 k2 k3 _
              rw [gd1] at hv
              exact next k3 k2 k1 hv
            rcases hgd with ⟨g1, g2⟩ | ⟨t, j2, pol, g1, g2, g3⟩
            · simp only [wpT, g1] at h7
              rw [if_pos (by simp [Region.wanted, g2])]
              exact run h7.2
            · simp only [wpT, g1] at h7
              have hbt := hread t (by simp [slotsOf, g1])
              rcases h7.2 with ⟨hb, this⟩ | ⟨b, hb, k1, k2⟩
              · rw [hb] at hbt
                have hy := yielded_none g3 (tup0_of_rel hbt)
                rw [if_neg (by simp [Region.wanted, g2, hy])]
                refine ⟨fen_about, ?_⟩
                rw [gd1] at this
                exact next (Stp.refl _ _) h5 tup0_rel this
              rw [hb] at hbt
              have hy := yielded_ok g3 (bool_of_rel hbt)
              by_cases hbp : b = pol
              · rw [if_pos (by simp [Region.wanted, g2, hy, hbp])]
                exact run (k1 hbp)
              · rw [if_neg (by simp [Region.wanted, g2, hy, hbp])]
                refine ⟨fen_about, ?_⟩
                have := k2 (by cases b <;> cases pol <;> simp_all)
                rw [gd1] at this
                exact next (Stp.refl _ _) h5 tup0_rel this
  have hS0 : ∀ j, ¬S (Array.replicate ops.size false) j := by
    intro j
    simp only [S, Array.getD_eq_getD_getElem?, Array.getElem?_replicate]
    split <;> simp
  refine mk ops.size _ X w a (by simp) ?_ (fun i o h => absurd h (hS0 i)) ?_
  · unfold unl
    rw [List.filter_eq_self.2]
    · simp
    · intro j hj
      have := List.mem_range.1 hj
      simp [Array.getD_eq_getD_getElem?, this]
  · have domH : ∀ r bi, X.blk r = some bi → r < H.length := by
      intro r bi hr
      obtain ⟨b, k, _⟩ := hH.blk r bi hr
      exact (List.getElem?_eq_some_iff.1 k).1
    · refine .inl ⟨fun j _ => hS0 j, ⟨fun r bi hr => ?_, fun r bi hr => .inl (by rw [hH0]; exact domH r bi hr), hH.inj, hH.own, hH.old, by rw [hH0]; exact hH.top, fun t _ => ⟨hA.f t, ?_⟩, fun j t h => absurd h (hS0 j), hA.size, hA.defers, hs⟩⟩
      · obtain ⟨b, k1, k2⟩ := hH.blk r bi hr
        have hlt := domH r bi hr
        refine ⟨b, ?_, k2, fun k hk _ => (bcl_of_rel domH k2).mono ?_⟩
        · rw [hs_get hp (i := 0) (by omega) (Nat.le_refl _) (by rw [hH0]; exact hlt), hH0]; exact k1
        · have := hs_len hp (i := 0) (j := k) (by omega) hk
          rw [hH0] at this
          exact this
      · rw [hH0]; exact cl_of_rel domH (hA.f t)

end
end Go.Ab

/-
  Regions whose order is open: the operations may be listed anew.
  Conditions: none.
-/
namespace Go.Ab

def permO (p : List Nat) (o : Oper) : Oper := { o with after := o.after.map (fun e => { e with on := p.idxOf e.on }), guard := o.guard.map fun g => (p.idxOf g.1, g.2) }
def permOps (p : List Nat) (ops : Array Oper) : Array Oper := (p.map fun k => permO p (ops.getD k default)).toArray
def isPerm (n : Nat) (p : List Nat) : Bool :=
  decide (p.length = n) && (List.range n).all (fun k => decide (p.idxOf k < n)) && (List.range n).all (fun i => decide (p.getD i n < n) && decide (p.idxOf (p.getD i n) = i))

section
variable {F : Fence} {n : Nat} {P : Program} {ops : Array Oper} {p : List Nat} {Q : Exit → Act → World → Prop}

theorem isPerm_ok {n : Nat} (h : isPerm n p = true) : p.length = n ∧ (∀ k, k < n → p.idxOf k < n ∧ p[p.idxOf k]? = some k) ∧ (∀ i, i < n → ∃ k, p[i]? = some k ∧ k < n ∧ p.idxOf k = i) ∧ ∀ k, n ≤ k → p.idxOf k = n := by
  simp only [isPerm, Bool.and_eq_true, decide_eq_true_eq, List.all_eq_true, List.mem_range] at h
  obtain ⟨⟨h1, h2⟩, h3⟩ := h
  have inv : ∀ i, i < n → ∃ k, p[i]? = some k ∧ k < n ∧ p.idxOf k = i := by
    intro i hi
    obtain ⟨a, b⟩ := h3 i hi
    have hg : p[i]? = some (p[i]'(by omega)) := by simp [h1, hi]
    rw [List.getD_eq_getElem?_getD, hg] at a b
    exact ⟨_, hg, a, b⟩
  refine ⟨h1, fun k hk => ⟨h2 k hk, ?_⟩, inv, fun k hk => ?_⟩
  · have hlt : p.idxOf k < p.length := by rw [h1]; exact h2 k hk
    rw [List.getElem?_eq_getElem hlt, List.getElem_idxOf hlt]
  · have : k ∉ p := by
      intro hm
      obtain ⟨i, hi⟩ := List.getElem?_of_mem hm
      have hlt := (List.getElem?_eq_some_iff.1 hi).1
      obtain ⟨k', a, b, _⟩ := inv i (by omega)
      rw [hi] at a
      cases a
      omega
    rw [List.idxOf_eq_length this, h1]

theorem permOps_get (h : isPerm ops.size p = true) {k : Nat} {o : Oper} (ho : ops[k]? = some o) : (permOps p ops)[p.idxOf k]? = some (permO p o) := by
  have hk := (Array.getElem?_eq_some_iff.1 ho).1
  obtain ⟨_, h2, _, _⟩ := isPerm_ok h
  simp only [permOps, List.getElem?_toArray, List.getElem?_map, (h2 k hk).2, Option.map_some, Array.getD_eq_getD_getElem?, ho, Option.getD_some]

theorem permOps_size (h : isPerm ops.size p = true) : (permOps p ops).size = ops.size := by simp [permOps, (isPerm_ok h).1]

/-- The listed, side by side. -/
def LRel (n : Nat) (p : List Nat) (l l' : Array Bool) : Prop := l.size = n ∧ l'.size = n ∧ ∀ k, k < n → l[k]? = l'[p.idxOf k]?

theorem lrel_getD (h : isPerm ops.size p = true) {l l' : Array Bool} (hl : LRel ops.size p l l') (b : Bool) (k : Nat) : l.getD k b = l'.getD (p.idxOf k) b := by
  obtain ⟨a1, a2, a3⟩ := hl
  rw [Array.getD_eq_getD_getElem?, Array.getD_eq_getD_getElem?]
  by_cases hk : k < ops.size
  · rw [a3 k hk]
  · rw [(isPerm_ok h).2.2.2 k (by omega), Array.getElem?_eq_none (by omega), Array.getElem?_eq_none (by omega)]

theorem ready_perm (h : isPerm ops.size p = true) {l l' : Array Bool} (hl : LRel ops.size p l l') {i : Nat} (hi : i < ops.size) : i ∈ Region.ready .any ops l ↔ p.idxOf i ∈ Region.ready .any (permOps p ops) l' := by
  obtain ⟨o, ho⟩ : ∃ o, ops[i]? = some o := ⟨ops[i], by simp [hi]⟩
  have ho' := permOps_get h ho
  unfold Region.ready
  rw [List.mem_filter, List.mem_filter, List.mem_range, List.mem_range, permOps_size h, ho, ho', lrel_getD h hl true i]
  have e : (o.after.all fun e => !Region.binds .any e || l.getD e.on false) = ((permO p o).after.all fun e => !Region.binds .any e || l'.getD e.on false) := by
    simp only [permO, Array.all_map]
    congr 1
    funext e
    simp only [Function.comp, Region.binds]
    rw [lrel_getD h hl false e.on]
  simp only [Option.map_some, Option.getD_some, e, hi, ((isPerm_ok h).2.1 i hi).1]

theorem yielded_perm (h : isPerm ops.size p = true) {tmps : Array Value} (j : Nat) : yielded (permOps p ops) tmps (p.idxOf j) = yielded ops tmps j := by
  unfold yielded
  by_cases hj : j < ops.size
  · obtain ⟨o, ho⟩ : ∃ o, ops[j]? = some o := ⟨ops[j], by simp [hj]⟩
    rw [permOps_get h ho, ho]
    rfl
  · rw [(isPerm_ok h).2.2.2 j (by omega), Array.getElem?_eq_none (by rw [permOps_size h]; exact Nat.le_refl _), Array.getElem?_eq_none (by omega)]

theorem perm_op (h : isPerm ops.size p = true) {i : Nat} (hi : i < ops.size) {K K' : Act → World → Prop} (hK : ∀ a w, K' a w → K a w) {a : Act} {w : World} (hw : Go.wpOpIn F n P (permOps p ops) Q (p.idxOf i) K' a w) : Go.wpOpIn F n P ops Q i K a w := by
  obtain ⟨o, ho⟩ : ∃ o, ops[i]? = some o := ⟨ops[i], by simp [hi]⟩
  have ho' := permOps_get h ho
  unfold Go.wpOpIn at hw ⊢
  rw [ho'] at hw
  rw [ho]
  simp only at hw ⊢
  have e1 : Region.wanted (permO p o) (yielded (permOps p ops) a.tmps) = Region.wanted o (yielded ops a.tmps) := by
    unfold Region.wanted permO
    cases hg : o.guard with
    | none => simp
    | some g => simp [yielded_perm h]
  rw [e1] at hw
  split at hw
  · rename_i hwd
    rw [if_pos hwd]
    exact Oper.wpIn_mono (o := o) hK hw
  · rename_i hwd
    rw [if_neg hwd]
    exact ⟨hw.1, hK _ _ hw.2⟩

theorem perm_any (h : isPerm ops.size p = true) : ∀ (fuel : Nat) (l l' : Array Bool) (a : Act) (w : World), LRel ops.size p l l' → wpAnyIn F n P .any (permOps p ops) Q fuel l' a w → wpAnyIn F n P .any ops Q fuel l a w := by
  have empty : ∀ l l' : Array Bool, LRel ops.size p l l' → (Region.ready .any ops l = [] ↔ Region.ready .any (permOps p ops) l' = []) := by
    intro l l' hl
    constructor
    · intro he
      rw [List.eq_nil_iff_forall_not_mem]
      intro i hi
      have hlt : i < ops.size := by
        unfold Region.ready at hi
        rw [List.mem_filter, List.mem_range, permOps_size h] at hi
        exact hi.1
      obtain ⟨k, _, hk, rfl⟩ := (isPerm_ok h).2.2.1 i hlt
      rw [← ready_perm h hl hk, he] at hi
      simp at hi
    · intro he
      rw [List.eq_nil_iff_forall_not_mem]
      intro i hi
      have hlt : i < ops.size := by
        unfold Region.ready at hi
        rw [List.mem_filter, List.mem_range] at hi
        exact hi.1
      rw [ready_perm h hl hlt, he] at hi
      simp at hi
  intro fuel
  induction fuel with
  | zero => intro l l' a w hl hw; exact ⟨(empty l l' hl).2 hw.1, hw.2⟩
  | succ fuel ih =>
    intro l l' a w hl hw
    refine ⟨fun he => hw.1 ((empty l l' hl).1 he), fun i hi => ?_⟩
    have hlt : i < ops.size := by
      unfold Region.ready at hi
      rw [List.mem_filter, List.mem_range] at hi
      exact hi.1
    refine perm_op h hlt (fun a w hk => ih _ _ a w ?_ hk) (hw.2 (p.idxOf i) ((ready_perm h hl hlt).1 hi))
    obtain ⟨a1, a2, a3⟩ := hl
    refine ⟨by simpa using a1, by simpa using a2, fun k hk => ?_⟩
    by_cases e : i = k
    · subst e
      have := ((isPerm_ok h).2.1 i hlt).1
      simp [a1, a2, hlt, this]
    · have hne : p.idxOf i ≠ p.idxOf k := by
        intro e2
        have q1 := ((isPerm_ok h).2.1 i hlt).2
        have q2 := ((isPerm_ok h).2.1 k hk).2
        rw [e2, q2] at q1
        cases q1
        exact e rfl
      rw [Array.getElem?_setIfInBounds_ne e, Array.getElem?_setIfInBounds_ne hne]
      exact a3 k hk

theorem perm_start (h : isPerm ops.size p = true) {a : Act} {w : World} (hw : wpAnyIn F n P .any (permOps p ops) Q (permOps p ops).size (Array.replicate (permOps p ops).size false) a w) : wpAnyIn F n P .any ops Q ops.size (Array.replicate ops.size false) a w := by
  rw [permOps_size h] at hw
  refine perm_any h _ _ _ a w ⟨by simp, by simp, fun k hk => ?_⟩ hw
  simp [hk, ((isPerm_ok h).2.1 k hk).1]

/-- The operations listed anew, where the list is one. -/
def reord (p : List Nat) (ops : Array Oper) : Array Oper := if isPerm ops.size p = true then permOps p ops else ops

theorem reord_ok {a : Act} {w : World} (hw : wpAnyIn F n P .any (reord p ops) Q (reord p ops).size (Array.replicate (reord p ops).size false) a w) : wpAnyIn F n P .any ops Q ops.size (Array.replicate ops.size false) a w := by
  unfold reord at hw
  split at hw
  · rename_i h; exact perm_start h hw
  · exact hw

end
end Go.Ab

/-
  The translation of code, and that the calculus speaks of the model's runs of it.
  Conditions: none.
-/
namespace Go.Ab

def withConv (h : RH) (m : MCode) : MCode := if h.conv then .seq .conv m else m

/-- How a loop over an iterator is translated. -/
abbrev RF := Operand → Array Tmp → Code → Code → List RH → Option (MCode × List RH)

def cmpC (P : Program) (N : Nat) (rf : RF) : Code → List RH → Option (MCode × List RH)
  | .skip, hs => some (.skip, hs)
  | .region _ ops false, h :: hs => (cmpOpers P N ops ops.toList).bind fun ms => some (withConv h (.region ms h.keep), hs)
  | .region _ ops true, h :: hs => (cmpOpers P N (reord h.perm ops) (reord h.perm ops).toList).bind fun ms =>
      if okDraw (reord h.perm ops) ms h.u = true then some (withConv h (.dregion (ms.take h.u) (ms.drop h.u) (flOf (reord h.perm ops) ms h.u) h.keep), hs) else none
  | .seq a b, hs => (cmpC P N rf a hs).bind fun x => (cmpC P N rf b x.2).bind fun y => some (.seq x.1 y.1, y.2)
  | .cond c a b, hs => (cmpOpd c).bind fun c => (cmpC P N rf a hs).bind fun x => (cmpC P N rf b x.2).bind fun y => some (.cond c x.1 y.1, y.2)
  | .block id c, hs => (cmpC P N rf c hs).bind fun x => some (.block id x.1, x.2)
  | .loop c, h :: hs => (cmpC P N rf c hs).bind fun x => some (.loop h.keep x.1, x.2)
  | .scope c, hs => (cmpC P N rf c hs).bind fun x => some (.scope x.1, x.2)
  | .exit id, hs => some (.exit id, hs)
  | .ret, hs => some (.ret, hs)
  | .rangeFunc g ps as bd, hs => rf g ps as bd hs
  | _, _ => none

theorem Post.mono {N : Nat} {X0 : Ctx} {w0 : World} {Q Q' : Ex → Env → Heap → Prop} (h : ∀ e σ H, Q e σ H → Q' e σ H) {x : Exit} {a : Act} {w : World} (p : Post N X0 w0 Q x a w) : Post N X0 w0 Q' x a w := by
  obtain ⟨e, σ, H, X, h1, h2, h3⟩ := p
  exact ⟨e, σ, H, X, h1, h _ _ _ h2, h3⟩

theorem wpOp_mono {C : CallR} {σ : Env} {H : Heap} {op : MOp} {K K' : AV → Heap → Prop} (h : ∀ v H, K v H → K' v H) (p : wpOp C σ H op K) : wpOp C σ H op K' := by
  cases op
  case call f args => obtain ⟨v, H', h1, h2⟩ := p; exact ⟨v, H', h1, h _ _ h2⟩
  case callv x args =>
    simp only [wpOp] at p ⊢
    split at p
    · obtain ⟨h0, v, H', h1, h2⟩ := p
      exact ⟨h0, v, H', h1, h _ _ h2⟩
    · obtain ⟨v, H', h1, h2⟩ := p
      exact ⟨v, H', h1, h _ _ h2⟩
    · exact p.elim
  all_goals (obtain ⟨q, h1, h2⟩ := p; exact ⟨q, h1, h _ _ h2⟩)

theorem wpOps_mono {C : CallR} {K K' : Env → Heap → Prop} (h : ∀ σ H, K σ H → K' σ H) : ∀ {os : List MOper} {σ : Env} {H : Heap}, wpOps C os σ H K → wpOps C os σ H K'
  | [], σ, H, p => h σ H p
  | o :: os, σ, H, p => by
    unfold wpOps at p ⊢
    split at p
    · exact wpOp_mono (fun v H' q => wpOps_mono h q) p
    · exact gdP_mono p (fun p => wpOp_mono (fun v H' q => wpOps_mono h q) p) (fun p => wpOps_mono h p)

theorem wpU_mono {C : CallR} {K K' : Env → Heap → Prop} (h : ∀ σ H, K σ H → K' σ H) : ∀ {os : List MOper} {σ : Env} {H : Heap}, wpU C os σ H K → wpU C os σ H K'
  | [], σ, H, p => h σ H p
  | o :: os, σ, H, p => by
    unfold wpU at p ⊢
    split at p
    · exact wpOp_mono (fun v H' q => ⟨q.1, wpU_mono h q.2⟩) p
    · exact gdP_mono p (fun p => wpOp_mono (fun v H' q => ⟨q.1, wpU_mono h q.2⟩) p) (fun p => wpU_mono h p)

theorem wpT_mono {C : CallR} {K K' : Env → Heap → Prop} (h : ∀ σ H, K σ H → K' σ H) : ∀ {os : List MOper} {fl : List (List MOper)} {σ : Env} {H : Heap}, wpT C fl os σ H K → wpT C fl os σ H K'
  | [], _, σ, H, p => ⟨p.1, h σ H p.2⟩
  | o :: os, _, σ, H, p => by
    unfold wpT at p ⊢
    refine ⟨p.1, ?_⟩
    have p := p.2
    split at p
    · exact wpOp_mono (fun v H' q => wpT_mono h q) p
    · exact gdP_mono p (fun p => wpOp_mono (fun v H' q => wpT_mono h q) p) (fun p => wpT_mono h p)

theorem wpC_mono {C : CallR} {base : Heap} : ∀ {m : MCode} {Q Q' : Ex → Env → Heap → Prop}, (∀ e σ H, Q e σ H → Q' e σ H) → ∀ {σ : Env} {H : Heap}, wpC C base m σ H Q → wpC C base m σ H Q'
  | .skip, _, _, h, _, _, p => h _ _ _ p
  | .region _ _, _, _, h, _, _, p => wpOps_mono (fun _ _ q => h _ _ _ q) p
  | .dregion _ _ _ _, _, _, h, _, _, p => wpU_mono (fun _ _ q => wpT_mono (fun _ _ q => h _ _ _ q) q) p
  | .seq a b, Q, Q', h, _, _, p => by
    refine wpC_mono (m := a) (fun e σ H q => ?_) p
    cases e with
    | normal => exact wpC_mono (m := b) h q
    | exit i => exact h _ _ _ q
    | ret => exact h _ _ _ q
  | .cond _ a b, _, _, h, _, _, ⟨t, h1, h2, h3⟩ => ⟨t, h1, fun e => wpC_mono (m := a) h (h2 e), fun e => wpC_mono (m := b) h (h3 e)⟩
  | .block id a, Q, Q', h, _, _, p => by
    refine wpC_mono (m := a) (fun e σ H q => ?_) p
    cases e with
    | normal => exact h _ _ _ q
    | exit i =>
      simp only at q ⊢
      split at q
      · rename_i e; rw [if_pos e]; exact h _ _ _ q
      · rename_i e; rw [if_neg e]; exact h _ _ _ q
    | ret => exact h _ _ _ q
  | .loop _ a, Q, Q', h, _, _, ⟨I, h1, h2⟩ => ⟨I, h1, fun n σ H hI => by
      refine wpC_mono (m := a) (fun e σ H q => ?_) (h2 n σ H hI)
      cases e with
      | normal => exact q
      | exit i => exact h _ _ _ q
      | ret => exact h _ _ _ q⟩
  | .scope a, _, _, h, _, _, p => wpC_mono (m := a) h p
  | .exit _, _, _, h, _, _, p => h _ _ _ p
  | .ret, _, _, h, _, _, p => h _ _ _ p
  | .conv, _, _, h, _, _, ⟨s, H', h1, h2⟩ => ⟨s, H', h1, h _ _ _ h2⟩
  | .rangef _ _ _ _ _ _ it _, _, _, h, _, _, ⟨a, b, h1, h2, h3⟩ => ⟨a, b, h1, h2, fun L => by
      refine wpC_mono (m := it) (fun e σ H q => ?_) (h3 L)
      obtain ⟨q1, ex, s, q2, q3, q4⟩ := q
      exact ⟨q1, ex, s, q2, q3, h _ _ _ q4⟩⟩

section
variable {P : Program} {C : CallR} {N n : Nat} {base : Heap} {ro : Option Nat}

/-- Ahead of a region, the state told anew. -/
theorem withConv_ok {h : RH} {m : MCode} {σ : Env} {H : Heap} {Q : Ex → Env → Heap → Prop} (p : wpC C base (withConv h m) σ H Q) :
    ∃ σ' H', (σ' = σ ∧ H' = H ∨ Conv base σ H σ' H') ∧ wpC C base m σ' H' Q := by
  unfold withConv at p
  split at p
  · obtain ⟨σ', H', h1, h2⟩ := p
    exact ⟨σ', H', .inr h1, h2⟩
  · exact ⟨σ, H, .inl ⟨rfl, rfl⟩, p⟩

theorem stepR_scope {b : Frame} {a : Act} {k : List Item} {cs : List Frame} {w : World} {c : Code} : step P (lone (b.atR a (.code (.scope c) :: k)) cs w) = .next (lone (b.atR a (.code c :: .inScope c :: k)) cs w) :=
  step_lone_go (by simp [stepG, stepG.exec, Frame.atR])

theorem stepR_inScope {b : Frame} {a : Act} {k : List Item} {cs : List Frame} {w : World} {c : Code} : step P (lone (b.atR a (.inScope c :: k)) cs w) = .next (lone (b.atR a k) cs w) :=
  step_lone_go (by simp [stepG, stepG.exec, Frame.atR])

theorem wpIn_scope_straight {F : Fence} {Q : Exit → Act → World → Prop} {a : Act} {w : World} {c : Code} (h : c.wpIn F n P (Exit.noGoto Q) a w) : (Code.scope c).wpIn F n P Q a w := by
  intro b k cs hro hb hr
  have h0 : (lone (b.atR a (.code (.scope c) :: k)) cs w).fenced P F := fenced_calm hb hr rfl
  obtain ⟨e, a₁, w₁, hq, harr⟩ := h b (.inScope c :: k) cs hro hb hr
  cases e with
  | normal => exact ⟨.normal, a₁, w₁, hq, .head h0 stepR_scope (StepsIn.trans harr (.one (fenced_calm hb hr rfl) stepR_inScope))⟩
  | exit id => exact ⟨.exit id, a₁, w₁, hq, fun k' hk => .head h0 stepR_scope (harr.1 k' (by simp [exitTo, hk])), fun hr' hk => let ⟨k₁, h1, h2⟩ := harr.2 hr' (by simp [exitTo, hk]); ⟨k₁, h1, .head h0 stepR_scope h2⟩⟩
  | goto l => exact hq.elim
  | ret => exact ⟨_, a₁, w₁, hq, .of_steps (.one h0 stepR_scope) harr⟩
  | panic ch => exact ⟨_, a₁, w₁, hq, .of_steps (.one h0 stepR_scope) harr⟩
  | outgrown => exact ⟨_, a₁, w₁, hq, .of_steps (.one h0 stepR_scope) harr⟩

theorem conv_at {X0 X : Ctx} {w0 w : World} (h0 : HRel X0 base w0) (ho : X0.top = base.length) {σ σ' : Env} {H H' : Heap} {a : Act} {B0 : Nat} (hc : σ' = σ ∧ H' = H ∨ Conv base σ H σ' H')
    (hs : Stp X0 w0 X w) (hH : HRel X H w) (hA : AM N B0 X w σ a) : ∃ X', Stp X0 w0 X' w ∧ HRel X' H' w ∧ AM N B0 X' w σ' a := by
  rcases hc with ⟨rfl, rfl⟩ | hc
  · exact ⟨X, hs, hH, hA⟩
  · obtain ⟨X', h1, h2, h3, h4⟩ := hc X0 w0 X w a.tmps h0 ho hs hH hA.f
    obtain ⟨D, k1, k2⟩ := hA
    refine ⟨X', h3, h1, D, ⟨h2, k1.size, k1.defers⟩, ⟨fun d hd => ?_, k2.dif⟩⟩
    obtain ⟨r, q1, q2, q3, q4⟩ := k2.all d hd
    exact ⟨r, q1, q2, q3, fun ho => q4 (h4 r ho)⟩

theorem wpC_sound (hC : COk P C) (hm : P.follows .mixedOrders = true) {X0 : Ctx} {w0 : World} (h0 : HRel X0 base w0) (ho : X0.top = base.length) {rf : RF}
    (hR : ∀ g ps as bd hs m hs', rf g ps as bd hs = some (m, hs') → ∀ {Q : Ex → Env → Heap → Prop} {σ : Env} {H : Heap} {X : Ctx} {w : World} {a : Act}, Stp X0 w0 X w → HRel X H w → AM N w0.heap.size X w σ a → wpC C base m σ H Q →
      (Code.rangeFunc g ps as bd).wpIn (fen ro) n P (Post N X0 w0 Q) a w) :
    ∀ (c : Code) {hs hs' : List RH} {m : MCode}, cmpC P N rf c hs = some (m, hs') → ∀ {Q : Ex → Env → Heap → Prop} {σ : Env} {H : Heap} {X : Ctx} {w : World} {a : Act},
      Stp X0 w0 X w → HRel X H w → AM N w0.heap.size X w σ a → wpC C base m σ H Q → c.wpIn (fen ro) n P (Post N X0 w0 Q) a w
  | .rangeFunc g ps as bd, hs, hs', m, hc, Q, σ, H, X, w, a, h1, h2, h3, h4 => hR g ps as bd hs m hs' hc h1 h2 h3 h4
  | .skip, hs, hs', m, hc, Q, σ, H, X, w, a, h1, h2, h3, h4 => by
    simp only [cmpC, Option.some.injEq, Prod.mk.injEq] at hc
    obtain ⟨rfl, rfl⟩ := hc
    exact wpIn_skip ⟨.normal, σ, H, X, trivial, h4, h3, h2, h1⟩
  | .exit id, hs, hs', m, hc, Q, σ, H, X, w, a, h1, h2, h3, h4 => by
    simp only [cmpC, Option.some.injEq, Prod.mk.injEq] at hc
    obtain ⟨rfl, rfl⟩ := hc
    exact wpIn_exit ⟨.exit id, σ, H, X, rfl, h4, h3, h2, h1⟩
  | .ret, hs, hs', m, hc, Q, σ, H, X, w, a, h1, h2, h3, h4 => by
    simp only [cmpC, Option.some.injEq, Prod.mk.injEq] at hc
    obtain ⟨rfl, rfl⟩ := hc
    exact wpIn_ret ⟨.ret, σ, H, X, trivial, h4, h3, h2, h1⟩
  | .scope c, hs, hs', m, hc, Q, σ, H, X, w, a, h1, h2, h3, h4 => by
    simp only [cmpC, Option.bind_eq_some_iff, Option.some.injEq, Prod.mk.injEq] at hc
    obtain ⟨x, hx, rfl, rfl⟩ := hc
    refine wpIn_scope_straight (wpIn_mono (wpC_sound hC hm h0 ho hR c hx h1 h2 h3 h4) ?_)
    rintro e a w ⟨x, σ, H, X, k1, k2⟩
    cases e with
    | goto l => exact k1.elim
    | _ => exact ⟨x, σ, H, X, k1, k2⟩
  | .seq c d, hs, hs', m, hc, Q, σ, H, X, w, a, h1, h2, h3, h4 => by
    simp only [cmpC, Option.bind_eq_some_iff, Option.some.injEq, Prod.mk.injEq] at hc
    obtain ⟨x, hx, y, hy, rfl, rfl⟩ := hc
    refine wpIn_seq (wpIn_mono (wpC_sound hC hm h0 ho hR c hx h1 h2 h3 h4) ?_)
    rintro e a w ⟨ex, σ, H, X, k1, k2, k3, k4, k5⟩
    cases e with
    | normal =>
      cases ex with
      | normal => exact wpC_sound hC hm h0 ho hR d hy k5 k4 k3 k2
      | exit i => exact k1.elim
      | ret => exact k1.elim
    | exit i =>
      cases ex with
      | normal => exact k1.elim
      | exit j => exact ⟨.exit j, σ, H, X, k1, k2, k3, k4, k5⟩
      | ret => exact k1.elim
    | ret =>
      cases ex with
      | normal => exact k1.elim
      | exit j => exact k1.elim
      | ret => exact ⟨.ret, σ, H, X, k1, k2, k3, k4, k5⟩
    | goto l => exact k1.elim
    | panic l => exact k1.elim
    | outgrown => exact k1.elim
  | .cond c x y, hs, hs', m, hc, Q, σ, H, X, w, a, h1, h2, h3, h4 => by
    simp only [cmpC, Option.bind_eq_some_iff, Option.some.injEq, Prod.mk.injEq] at hc
    obtain ⟨cc, hcc, x', hx, y', hy, rfl, rfl⟩ := hc
    obtain ⟨b, k1, k2, k3⟩ := h4
    have := opd_ok h3.f hcc
    rw [k1] at this
    refine wpIn_cond (t := b) (bool_of_rel this) ?_
    cases b with
    | true => exact wpC_sound hC hm h0 ho hR x hx h1 h2 h3 (k2 rfl)
    | false => exact wpC_sound hC hm h0 ho hR y hy h1 h2 h3 (k3 rfl)
  | .block id c, hs, hs', m, hc, Q, σ, H, X, w, a, h1, h2, h3, h4 => by
    simp only [cmpC, Option.bind_eq_some_iff, Option.some.injEq, Prod.mk.injEq] at hc
    obtain ⟨x, hx, rfl, rfl⟩ := hc
    refine wpIn_block (wpIn_mono (wpC_sound hC hm h0 ho hR c hx h1 h2 h3 h4) ?_)
    rintro e a w ⟨ex, σ, H, X, k1, k2, k3, k4, k5⟩
    cases e with
    | normal =>
      cases ex with
      | normal => exact ⟨.normal, σ, H, X, trivial, k2, k3, k4, k5⟩
      | exit i => exact k1.elim
      | ret => exact k1.elim
    | exit i =>
      cases ex with
      | normal => exact k1.elim
      | exit j =>
        have e : i = j := k1
        subst e
        simp only [Exit.inBlock] at k2 ⊢
        by_cases e : i = id
        · rw [if_pos e] at k2 ⊢; exact ⟨.normal, σ, H, X, trivial, k2, k3, k4, k5⟩
        · rw [if_neg e] at k2 ⊢; exact ⟨.exit i, σ, H, X, rfl, k2, k3, k4, k5⟩
      | ret => exact k1.elim
    | ret =>
      cases ex with
      | normal => exact k1.elim
      | exit j => exact k1.elim
      | ret => exact ⟨.ret, σ, H, X, k1, k2, k3, k4, k5⟩
    | goto l => exact k1.elim
    | panic l => exact k1.elim
    | outgrown => exact k1.elim
  | .loop c, [], hs', m, hc, Q, σ, H, X, w, a, h1, h2, h3, h4 => by simp [cmpC] at hc
  | .loop c, h :: hs, hs', m, hc, Q, σ, H, X, w, a, h1, h2, h3, h4 => by
    simp only [cmpC, Option.bind_eq_some_iff, Option.some.injEq, Prod.mk.injEq] at hc
    obtain ⟨x, hx, rfl, rfl⟩ := hc
    obtain ⟨I, ⟨n0, hI0⟩, hI⟩ := h4
    let J (n : Nat) (a : Act) (w : World) : Prop := ∃ σ H X, I n σ H ∧ AM N w0.heap.size X w σ a ∧ HRel X H w ∧ Stp X0 w0 X w
    classical
    let μ (a : Act) (w : World) : Nat := if h : ∃ n, J n a w ∧ ∀ m, J m a w → n ≤ m then h.choose else 0
    have least : ∀ (a : Act) (w : World), (∃ n, J n a w) → ∃ n, J n a w ∧ ∀ m, J m a w → n ≤ m := by
      intro a w h
      obtain ⟨n, hn⟩ := h
      induction n using Nat.strongRecOn with
      | _ n ih =>
        by_cases hl : ∃ m, m < n ∧ J m a w
        · obtain ⟨m, h1, h2⟩ := hl; exact ih m h1 h2
        · exact ⟨n, hn, fun m hm => Nat.le_of_not_lt fun hlt => hl ⟨m, hlt, hm⟩⟩
    have hμ : ∀ a w, (∃ n, J n a w) → J (μ a w) a w ∧ ∀ m, J m a w → μ a w ≤ m := by
      intro a w h
      have := least a w h
      simp only [μ, dif_pos this]
      exact this.choose_spec
    refine wpIn_loop (fun a w => ∃ n, J n a w) μ ⟨n0, _, H, X, hI0, h3.keep _, h2, h1⟩ ?_
    intro a w hJ
    obtain ⟨⟨σ, H, X, j1, j2, j3, j4⟩, _⟩ := hμ a w hJ
    refine wpIn_mono (wpC_sound hC hm h0 ho hR c hx j4 j3 j2 (hI _ σ H j1)) ?_
    rintro e a' w' ⟨ex, σ, H, X, k1, k2, k3, k4, k5⟩
    cases e with
    | normal =>
      cases ex with
      | normal =>
        obtain ⟨m, hlt, hIm⟩ := k2
        have hJm : J m a' w' := ⟨_, H, X, hIm, k3.keep _, k4, k5⟩
        exact ⟨⟨m, hJm⟩, Nat.lt_of_le_of_lt ((hμ a' w' ⟨m, hJm⟩).2 m hJm) hlt⟩
      | exit i => exact k1.elim
      | ret => exact k1.elim
    | exit i =>
      cases ex with
      | normal => exact k1.elim
      | exit j => exact ⟨.exit j, σ, H, X, k1, k2, k3, k4, k5⟩
      | ret => exact k1.elim
    | ret =>
      cases ex with
      | normal => exact k1.elim
      | exit j => exact k1.elim
      | ret => exact ⟨.ret, σ, H, X, k1, k2, k3, k4, k5⟩
    | goto l => exact k1.elim
    | panic l => exact k1.elim
    | outgrown => exact k1.elim
  | .region id ops d, [], hs', m, hc, Q, σ, H, X, w, a, h1, h2, h3, h4 => by cases d <;> simp [cmpC] at hc
  | .region id ops false, h :: hs, hs', m, hc, Q, σ, H, X, w, a, h1, h2, h3, h4 => by
    simp only [cmpC, Option.bind_eq_some_iff, Option.some.injEq, Prod.mk.injEq] at hc
    obtain ⟨ms, hx, rfl, rfl⟩ := hc
    obtain ⟨σ', H', k1, k2⟩ := withConv_ok h4
    obtain ⟨X', j1, j2, j3⟩ := conv_at h0 ho k1 h1 h2 h3
    obtain ⟨D, j3, j4⟩ := j3
    refine wpIn_region_list (list_sound hC hx (Stp.refl X' w) j2 j3 k2 ?_)
    intro σ H X w a q1 q2 q3 q4
    exact ⟨.normal, _, H, X, trivial, q1, AM.keep ⟨D, q4, j4.step j2 q2⟩ _, q3, j1.trans q2⟩
  | .region id ops true, h :: hs, hs', m, hc, Q, σ, H, X, w, a, h1, h2, h3, h4 => by
    simp only [cmpC, Option.bind_eq_some_iff] at hc
    obtain ⟨ms, hx, hc⟩ := hc
    split at hc
    case isFalse => cases hc
    rename_i hok
    simp only [Option.some.injEq, Prod.mk.injEq] at hc
    obtain ⟨rfl, rfl⟩ := hc
    obtain ⟨σ', H', k1, k2⟩ := withConv_ok h4
    obtain ⟨X', j1, j2, j3⟩ := conv_at h0 ho k1 h1 h2 h3
    obtain ⟨D, j3, j4⟩ := j3
    refine wpIn_region_any hm (reord_ok (draw_sound hC hx hok (Stp.drawn X' w _) j2.drawn ⟨fun t => (j3.f t).drawn, j3.size, j3.defers⟩ k2 ?_))
    intro σ H X w a q1 q2 q3 q4
    exact ⟨.normal, _, H, X, trivial, q1, AM.keep ⟨D, q4, j4.step j2 q2⟩ _, q3, j1.trans q2⟩

end
end Go.Ab
