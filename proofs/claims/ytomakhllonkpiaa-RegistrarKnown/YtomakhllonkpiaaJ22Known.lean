/- RegistrarKnown returns true and leaves its input alone, as the given statement says. Conditions: none. -/
import Derived.Test.YtomakhllonkpiaaRows
import Derived.Test.YtomakhllonkpiaaJ22KnEv
namespace Go.Proofs.Ytomakhllonkpiaa
open Go.Ab Go.ChangeShapes Go.WideShapes Go.ChangeAt Go.RowKit

theorem own' : ownKnob Try.prog.godebug = none := by kernel_rfl
theorem laidOut' : laidOutB Try.prog = true := by kernel_rfl

set_option maxRecDepth 100000 in
theorem known_lifted (os : Os) (started : os.Started) (H : Type) (enc : TypeId × Value → H) :
    ReturnsInHanded {} Try.checked os 5 .any (Rows.registrarKnownSpec.pre6 enc Try.prog Try.f5 Rows.registrarKnownRow.domain false) (Rows.registrarKnownSpec.post enc Try.prog Try.f5 false true false false) := by
  refine law_lifted (C := Try.checked) (tb := 4) own' started (by kernel_rfl) Try.func5
    (ChangeSpec.witness6 (enc := enc) (C := Try.checked) false ⟨#[], #[], []⟩ 8 (by kernel_rfl) (by kernel_rfl) (by kernel_rfl) (by kernel_rfl))
    laidOut' rfl rfl Try.underlying4 (by intro t h; cases h) (by intro ds h; match ds, h with | [], _ => rfl) ?_
  intro W base args ds p _ hA _
  obtain ⟨H', hs⟩ := true_of_evalP Ab.Try.mixed Ab.Try.tbl_ok Ab.Try.ov_ok Ab.Try.known_eval
  have : args.toList = [] := (trodAll_nil hA).1
  rw [this]
  exact ⟨[], H', .nil _ _, hs⟩

theorem known_holds : Rows.RegistrarKnownSaid :=
  OpenClaim.holds_of_wide 5 Try.f5 rfl rfl rfl rfl rfl rfl rfl ⟨rfl, rfl, rfl, rfl, rfl⟩ rfl rfl rfl rfl rfl (by kernel_rfl) Try.func5 (by kernel_rfl)
    (of_decide_eq_true (by kernel_rfl)) (by unfold Func.isWrapper; first | (rw [if_pos (by decide +kernel)]; kernel_rfl) | (rw [if_neg (by decide +kernel)]; exact ⟨rfl, rfl⟩))
    (fun os started H enc _ => known_lifted os started H enc)
end Go.Proofs.Ytomakhllonkpiaa
