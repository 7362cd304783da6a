/-
  Loops over iterators in the calculus: the law of the loop, and of a round.
  Conditions: none.
-/
import Derived.Test.YtjckmpmnomkmlaaDoorAbAcc
namespace Go.Ab

section
variable {C : CallR} {base : Heap} {σ : Env} {H : Heap} {Q : Ex → Env → Heap → Prop}

/-- What a round of the loop comes to. -/
def roundR (C : CallR) (r : Nat) (ps : List Nat) (as bd : MCode) (σ : Env) (L : Loop) : List AV → Heap → AV → Heap → Prop := fun args H1 v H2 =>
  args.length = ps.length ∧ H1[r]? = some (lrecS σ L .ready none) ∧
    wpC C H1 as (putAll σ ps args) H1 fun e σ1 Ha => e = .normal ∧ Ha[r]? = some (lrecS σ L .ready none) ∧
      wpC C H1 bd σ1 (Ha.set r (lrecS σ L .busy none)) fun e2 _ Hb => Hb[r]? = some (lrecS σ L .busy none) ∧
        v = .bool (decide (e2 = .normal)) ∧ H2 = Hb.set r (lrecS σ L (if e2 = .normal then .ready else .done) (codeOf e2))
/-- What follows the iterator. -/
def rangeK (r : Nat) (σ : Env) (L : Loop) (Q : Ex → Env → Heap → Prop) : Ex → Env → Heap → Prop := fun e _ H3 => (e = .normal ∨ e = .ret) ∧
  ∃ ex s, s ≠ LoopState.busy ∧ H3[r]? = some (lrecS σ L s (codeOf ex)) ∧ Q ex σ (H3.set r (lrecS σ L .exhausted (codeOf ex)))

theorem vc_rangef {x : Opd} {ps : List Nat} {as bd : MCode} {g np : Nat} {it : MCode} {keep : List Nat} {first cap : List AV} (hx : x.ev σ = .func g first cap) (hl : (first ++ [AV.undef] ++ cap).length ≤ np)
    (h : ∀ L, wpC (yieldC C H.length (roundR C H.length ps as bd (σ.keep keep) L)) (H ++ [lrecS (σ.keep keep) L .ready none]) it (envOf (first ++ [.yld H.length] ++ cap) 0) (H ++ [lrecS (σ.keep keep) L .ready none]) (rangeK H.length (σ.keep keep) L Q)) :
    wpC C base (.rangef x ps as bd g np it keep) σ H Q := ⟨first, cap, hx, hl, h⟩

/-- What is to be shown of a round that goes on. -/
def nextK (r : Nat) (σ : Env) (L : Loop) (H2 : Heap) : Ex → Env → Heap → Prop := fun e2 _ Hb => e2 = .normal ∧ Hb[r]? = some (lrecS σ L .busy none) ∧ H2 = Hb.set r (lrecS σ L .ready none)
@[simp] theorem nextK_eq {r : Nat} {τ : Env} {L : Loop} {H2 : Heap} {e2 : Ex} {σ' : Env} {Hb : Heap} : nextK r τ L H2 e2 σ' Hb = (e2 = .normal ∧ Hb[r]? = some (lrecS τ L .busy none) ∧ H2 = Hb.set r (lrecS τ L .ready none)) := propext Iff.rfl
theorem vc_next {r : Nat} {ps : List Nat} {as bd : MCode} {τ : Env} {L : Loop} {args : List AV} {K : AV → Heap → Prop} (H' : Heap) (hl : args.length = ps.length) (hr : H[r]? = some (lrecS τ L .ready none))
    (h : wpC C H as (putAll τ ps args) H fun e σ1 Ha => e = .normal ∧ Ha[r]? = some (lrecS τ L .ready none) ∧ wpC C H bd σ1 (Ha.set r (lrecS τ L .busy none)) (nextK r τ L H'))
    (k : K (.bool true) H') : callK (yieldC C r (roundR C r ps as bd τ L)) 0 (.yld r :: args) H K := by
  refine ⟨.bool true, H', ⟨rfl, hl, hr, wpC_mono (fun e σ1 Ha q => ?_) h⟩, k⟩
  obtain ⟨q1, q2, q3⟩ := q
  refine ⟨q1, q2, wpC_mono (fun e2 σ2 Hb q => ?_) q3⟩
  obtain ⟨rfl, p2, rfl⟩ := q
  exact ⟨p2, by simp, by simp [codeOf]⟩
theorem yieldC_ne {r : Nat} {Y : List AV → Heap → AV → Heap → Prop} {f : Nat} {args : List AV} {K : AV → Heap → Prop} (hf : f ≠ 0) : callK (yieldC C r Y) f args H K = callK C f args H K := by
  unfold callK
  have : ∀ v H', yieldC C r Y f args H v H' = C f args H v H' := by
    intro v H'
    unfold yieldC
    split
    · exact absurd rfl hf
    · rfl
  simp only [this]
end
end Go.Ab
