/-
  Conditions whose outcome is known: the other branch is not looked at.
  Conditions: none.
-/
import Derived.Test.YtomakhllonkpiaaAbAcc
namespace Go.Ab
@[congr] theorem condK_congr {v v' : AV} {A B : Prop} (h : v = v') : condK v A B = condK v' A B := by rw [h]
@[simp] theorem condK_t {A B : Prop} : condK (.bool true) A B = A := propext ⟨fun ⟨b, h, k, _⟩ => by cases h; exact k rfl, fun h => ⟨true, rfl, (fun _ => h), (fun h => nomatch h)⟩⟩
@[simp] theorem condK_f {A B : Prop} : condK (.bool false) A B = B := propext ⟨fun ⟨b, h, _, k⟩ => by cases h; exact k rfl, fun h => ⟨false, rfl, (fun h => nomatch h), (fun _ => h)⟩⟩
end Go.Ab
