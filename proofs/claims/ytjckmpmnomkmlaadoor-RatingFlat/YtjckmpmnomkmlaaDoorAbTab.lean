/-
  Calls of proved functions as a table: where each entry's arguments tell its outcome, the simplifier works a call out.
  Conditions: none.
-/
import Derived.Test.YtjckmpmnomkmlaaDoorAbAcc2
namespace Go.Ab

/-- A proved function: for each a of α, from the arguments enc a it comes to res a, in whatever heap. -/
structure Entry (P : Program) where
  f : Nat
  α : Type
  enc : α → List AV
  res : α → AV
  inj : ∀ a b, enc a = enc b → res a = res b
  ok : ∀ a H, Spec P f (enc a) H (res a) H

def CE {P : Program} (es : List (Entry P)) : CallR := fun f args H v H' => H' = H ∧ ∃ e, e ∈ es ∧ e.f = f ∧ ∃ a, args = e.enc a ∧ v = e.res a

theorem CE_ok {P : Program} {es : List (Entry P)} (f : Nat) (args : List AV) (H : Heap) (v : AV) (H' : Heap) (h : CE es f args H v H') : Spec P f args H v H' := by
  obtain ⟨rfl, e, _, rfl, a, rfl, rfl⟩ := h
  exact e.ok a _

/-- The entry of a function. -/
def entryAt {P : Program} : List (Entry P) → Nat → Option (Entry P)
  | [], _ => none
  | e :: es, f => if e.f = f then (if (es.all fun e' => decide (e'.f ≠ f)) = true then some e else none) else entryAt es f

theorem entryAt_ok {P : Program} : ∀ {es : List (Entry P)} {f : Nat} {e : Entry P}, entryAt es f = some e → e.f = f ∧ e ∈ es ∧ ∀ e' ∈ es, e'.f = f → e' = e
  | [], f, e, h => by cases h
  | x :: es, f, e, h => by
    unfold entryAt at h
    split at h
    · rename_i hf
      split at h
      · rename_i hall
        cases h
        refine ⟨hf, List.mem_cons_self .., fun e' he' h' => ?_⟩
        rcases List.mem_cons.1 he' with rfl | he'
        · rfl
        · rw [List.all_eq_true] at hall
          have := hall e' he'
          simp only [decide_eq_true_eq] at this
          exact absurd h' this
      · cases h
    · rename_i hf
      obtain ⟨h1, h2, h3⟩ := entryAt_ok h
      refine ⟨h1, List.mem_cons_of_mem _ h2, fun e' he' h' => ?_⟩
      rcases List.mem_cons.1 he' with rfl | he'
      · exact absurd h' hf
      · exact h3 e' he' h'

/-- A call of an entry. -/
theorem callK_E {P : Program} {es : List (Entry P)} {f : Nat} {e : Entry P} (he : entryAt es f = some e) (a : e.α) {H : Heap} {K : AV → Heap → Prop} : callK (CE es) f (e.enc a) H K = K (e.res a) H := by
  obtain ⟨h1, h2, h3⟩ := entryAt_ok he
  apply propext
  constructor
  · rintro ⟨v, H', ⟨rfl, e', m, hf, b, hb, rfl⟩, hk⟩
    have := h3 e' m hf
    subst this
    rw [e'.inj _ _ hb]
    exact hk
  · intro hk
    exact ⟨_, _, ⟨rfl, e, h2, h1, a, rfl, rfl⟩, hk⟩
end Go.Ab
