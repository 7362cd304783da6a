/- MixerTurns returns true and leaves its input alone, as the given statement says. Conditions: none. -/
import Derived.Test.YtklidlkpdhjfdaaRows
import Derived.Test.YtklidlkpdhjfdaaJ31Law4
import Derived.Test.YtklidlkpdhjfdaaAbRead2
namespace Go.Proofs.Ytklidlkpdhjfdaa
open Go.Ab Go.ChangeShapes Go.WideShapes Go.ChangeAt Go.RowKit

theorem own' : ownKnob Try.prog.godebug = none := by kernel_rfl
theorem laidOut' : laidOutB Try.prog = true := by kernel_rfl

theorem rd_fr22 : Rd Try.prog 22 fun l => ∃ f : List Int, l = [.islice (Ab.Try.S.rowsI16 f)] ∧ f.length ≤ maxLen ∧ Ab.Try.S.okF f :=
  Rd.mono (Rd_list (fun n : Int => [AV.int .i16 n]) Try.underlying22 (s := 1) (by kernel_rfl) (by omega) (Rd_i16 Try.underlying40) (fun l ⟨n, h, _⟩ => ⟨n, h⟩)) fun l ⟨f, h1, h2, h3⟩ => ⟨f, h1, h2, fun a ha => by
    obtain ⟨n, h4, h5⟩ := h3 a ha
    cases h4
    exact h5⟩
theorem rd_frs28 : Rd Try.prog 28 fun l => ∃ fs : List (List Int), l = [.islice (Ab.Try.S.frRows fs)] ∧ fs.length ≤ maxLen ∧ ∀ f ∈ fs, Ab.Try.S.okF f ∧ f.length ≤ maxLen :=
  Rd.mono (Rd_list Ab.Try.S.frRow Try.underlying28 (s := 1) (by kernel_rfl) (by omega) rd_fr22 (fun l ⟨f, h, _⟩ => ⟨f, h⟩)) fun l ⟨fs, h1, h2, h3⟩ => ⟨fs, h1, h2, fun a ha => by
    obtain ⟨f, h4, h5, h6⟩ := h3 a ha
    have e := Ab.Try.S.rowsI16_inj (by simpa [Ab.Try.S.frRow] using h4)
    rw [e]
    exact ⟨h6, h5⟩⟩

set_option maxRecDepth 100000 in
theorem law_lifted' (os : Os) (started : os.Started) (H : Type) (enc : TypeId × Value → H) :
    ReturnsInHanded {} Try.checked os 4 .any (Rows.mixerTurnsSpec.pre6 enc Try.prog Try.f4 Rows.mixerTurnsRow.domain false) (Rows.mixerTurnsSpec.post enc Try.prog Try.f4 false true false false) := by
  refine law_read (C := Try.checked) (tb := 4) own' started (by kernel_rfl) Try.func4
    (ChangeSpec.witness6 (enc := enc) (C := Try.checked) false ⟨#[], #[.slice none 0 0, .int .u8 0, .int .u8 0], []⟩ 8 (by kernel_rfl) (by kernel_rfl) (by kernel_rfl) (by kernel_rfl))
    laidOut' rfl rfl Try.underlying4 (params_of (by kernel_rfl)) (by intro ds h; match ds, h with | [_, _, _], _ => rfl)
    (.c rd_frs28 Try.underlying28 (.c (Rd_u8 Try.underlying5) Try.underlying5 (.c (Rd_u8 Try.underlying5) Try.underlying5 .nil))) ?_
  intro avs h
  obtain ⟨c0, t0, rfl, h0, h⟩ := h.c Try.underlying28
  obtain ⟨c1, t1, rfl, h1, h⟩ := h.c Try.underlying5
  obtain ⟨c2, t2, rfl, h2, h⟩ := h.c Try.underlying5
  have := h.n
  subst this
  obtain ⟨fs, h0', hm, hok⟩ := h0
  cases h0'
  obtain ⟨a, h1'⟩ := h1
  cases h1'
  obtain ⟨b, h2'⟩ := h2
  cases h2'
  exact Ab.Try.S.law4 fs a b (fun f hf => (hok f hf).1)

theorem law_holds : Rows.MixerTurnsSaid :=
  OpenClaim.holds_of_wide 4 Try.f4 rfl rfl rfl rfl rfl rfl rfl ⟨rfl, rfl, rfl, rfl, rfl⟩ rfl rfl rfl rfl rfl (by kernel_rfl) Try.func4 (by kernel_rfl)
    (of_decide_eq_true (by kernel_rfl)) (by unfold Func.isWrapper; first | (rw [if_pos (by decide +kernel)]; kernel_rfl) | (rw [if_neg (by decide +kernel)]; exact ⟨rfl, rfl⟩))
    (fun os started H enc _ => law_lifted' os started H enc)
end Go.Proofs.Ytklidlkpdhjfdaa
