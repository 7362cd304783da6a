/-
  Arrays of two among a law's arguments.
  Conditions: none.
-/
import Derived.Test.YtomcdnibcdojcaaAbRead2
import Derived.OpenShut
namespace Go.Ab
theorem Rd_arr2 {P : Program} {t e : TypeId} {Φ : List AV → Prop} (ht : P.underlying t = some (.array 2 e)) (hc : P.cellsOf t = 2) (he : P.cellsOf e = 1) (h : Rd P e Φ) : Rd P t fun l => ∃ a b, l = a ++ b ∧ Φ a ∧ Φ b := by
  intro H enc w base spare held fuel cs x hx
  obtain ⟨xs, m, rfl, _, hl, hlen, hel⟩ := DataW.trod_array ht hx
  rw [hc] at hl
  have h0 := hel 0 (by omega)
  have h1 := hel 1 (by omega)
  rw [he, List.getElem?_eq_getElem (by omega)] at h0 h1
  obtain ⟨a, a1, a2, a3⟩ := h enc w base spare held _ _ _ h0
  obtain ⟨b, b1, b2, b3⟩ := h enc w base spare held _ _ _ h1
  refine ⟨a ++ b, ⟨a, b, rfl, a1, b1⟩, ?_, ?_⟩
  · have e1 : cs = (cs.drop (0 * 1)).take 1 ++ (cs.drop (1 * 1)).take 1 := by
      match cs, hl with
      | [c0, c1], _ => rfl
    rw [e1]
    exact VRels.append a2 b2
  · intro c hc
    rcases List.mem_append.1 hc with hc | hc
    · exact a3 c hc
    · exact b3 c hc
end Go.Ab
