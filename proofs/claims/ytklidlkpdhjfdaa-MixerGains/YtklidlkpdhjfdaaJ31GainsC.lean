/- MixerGains returns true and leaves its input alone, as the given statement says. Conditions: none. -/
import Derived.Test.YtklidlkpdhjfdaaRows
import Derived.Test.YtklidlkpdhjfdaaJ31Law3
import Derived.Test.YtklidlkpdhjfdaaAbRead2
namespace Go.Proofs.Ytklidlkpdhjfdaa
open Go.Ab Go.ChangeShapes Go.WideShapes Go.ChangeAt Go.RowKit

theorem own' : ownKnob Try.prog.godebug = none := by kernel_rfl
theorem laidOut' : laidOutB Try.prog = true := by kernel_rfl

theorem rd_fr22 : Rd Try.prog 22 fun l => ∃ f : List Int, l = [.islice (Ab.Try.S.rowsI16 f)] ∧ f.length ≤ maxLen ∧ Ab.Try.S.okF f :=
  Rd.mono (Rd_list (fun n : Int => [AV.int .i16 n]) Try.underlying22 (s := 1) (by kernel_rfl) (by omega) (Rd_i16 Try.underlying40) (fun l ⟨n, h, _⟩ => ⟨n, h⟩)) fun l ⟨f, h1, h2, h3⟩ => ⟨f, h1, h2, fun a ha => by
    obtain ⟨n, h4, h5⟩ := h3 a ha
    cases h4
    exact h5⟩
theorem rd_frs28 : Rd Try.prog 28 fun l => ∃ fs : List (List Int), l = [.islice (Ab.Try.S.frRows fs)] ∧ fs.length ≤ maxLen ∧ ∀ f ∈ fs, Ab.Try.S.okF f ∧ f.length ≤ maxLen :=
  Rd.mono (Rd_list Ab.Try.S.frRow Try.underlying28 (s := 1) (by kernel_rfl) (by omega) rd_fr22 (fun l ⟨f, h, _⟩ => ⟨f, h⟩)) fun l ⟨fs, h1, h2, h3⟩ => ⟨fs, h1, h2, fun a ha => by
    obtain ⟨f, h4, h5, h6⟩ := h3 a ha
    have e := Ab.Try.S.rowsI16_inj (by simpa [Ab.Try.S.frRow] using h4)
    rw [e]
    exact ⟨h6, h5⟩⟩

set_option maxRecDepth 100000 in
theorem law_lifted' (os : Os) (started : os.Started) (H : Type) (enc : TypeId × Value → H) :
    ReturnsInHanded {} Try.checked os 3 .any (Rows.mixerGainsSpec.pre6 enc Try.prog Try.f3 Rows.mixerGainsRow.domain false) (Rows.mixerGainsSpec.post enc Try.prog Try.f3 false true false false) := by
  refine law_read (C := Try.checked) (tb := 4) own' started (by kernel_rfl) Try.func3
    (ChangeSpec.witness6 (enc := enc) (C := Try.checked) false ⟨#[], #[.slice none 0 0, .int .i64 0], []⟩ 8 (by kernel_rfl) (by kernel_rfl) (by kernel_rfl) (by kernel_rfl))
    laidOut' rfl rfl Try.underlying4 (params_of (by kernel_rfl)) (by intro ds h; match ds, h with | [_, _], _ => rfl)
    (.c rd_fr22 Try.underlying22 (.c (Rd_i64 Try.underlying3) Try.underlying3 .nil)) ?_
  intro avs h
  obtain ⟨c0, t0, rfl, h0, h⟩ := h.c Try.underlying22
  obtain ⟨c1, t1, rfl, h1, h⟩ := h.c Try.underlying3
  have := h.n
  subst this
  obtain ⟨f, h0', hm, hok⟩ := h0
  cases h0'
  obtain ⟨n, h1', hn1, hn2⟩ := h1
  cases h1'
  exact Ab.Try.S.law3 f n (Nat.le_trans hm (by decide)) hok

theorem law_holds : Rows.MixerGainsSaid :=
  OpenClaim.holds_of_wide 3 Try.f3 rfl rfl rfl rfl rfl rfl rfl ⟨rfl, rfl, rfl, rfl, rfl⟩ rfl rfl rfl rfl rfl (by kernel_rfl) Try.func3 (by kernel_rfl)
    (of_decide_eq_true (by kernel_rfl)) (by unfold Func.isWrapper; first | (rw [if_pos (by decide +kernel)]; kernel_rfl) | (rw [if_neg (by decide +kernel)]; exact ⟨rfl, rfl⟩))
    (fun os started H enc _ => law_lifted' os started H enc)
end Go.Proofs.Ytklidlkpdhjfdaa
