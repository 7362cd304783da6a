/- A map with texts as its keys, all of them true. Conditions: none. -/
import Derived.Test.YtomakhllonkpiaaAbTab
namespace Go.Ab

def KeysOf (es : List (AV × AV × Nat)) (l : List (List UInt8)) : Prop := es.map (fun e => (e.1, e.2.1)) = l.map fun u => (AV.str u, AV.bool true)
theorem find_keys : ∀ {es : List (AV × AV × Nat)} {l : List (List UInt8)} {u : List UInt8} {i : Nat}, KeysOf es l → (u ∈ l → ∃ j, findAV 2 (.str u) es i = some (some (j, .bool true))) ∧ (u ∉ l → findAV 2 (.str u) es i = some none)
  | [], [], u, i, h => ⟨fun h => (by simp at h), fun _ => rfl⟩
  | [], _ :: _, u, i, h => by simp [KeysOf] at h
  | _ :: _, [], u, i, h => by simp [KeysOf] at h
  | (k, v, t) :: es, w :: l, u, i, h => by
    simp only [KeysOf, List.map_cons, List.cons.injEq, Prod.mk.injEq] at h
    obtain ⟨⟨rfl, rfl⟩, h⟩ := h
    have ih := find_keys (es := es) (l := l) (u := u) (i := i + 1) h
    by_cases hu : u = w
    · subst hu
      exact ⟨fun _ => ⟨i, by simp [findAV, cellEq]⟩, fun hn => absurd (List.mem_cons_self ..) hn⟩
    · refine ⟨fun hm => ?_, fun hn => ?_⟩
      · rcases List.mem_cons.1 hm with rfl | hm
        · exact absurd rfl hu
        · obtain ⟨j, hj⟩ := ih.1 hm
          exact ⟨j, by simp [findAV, cellEq, hu, hj]⟩
      · have := ih.2 fun hm => hn (List.mem_cons_of_mem _ hm)
        simp [findAV, cellEq, hu, this]
theorem look_keys {H : Heap} {r clock : Nat} {es : List (AV × AV × Nat)} {l : List (List UInt8)} {u : List UInt8} (hb : H[r]? = some (.map es clock)) (hk : KeysOf es l) : lookAV H 2 (.bool false) false (.map r) (.str u) = some (.bool (decide (u ∈ l))) := by
  have := find_keys (u := u) (i := 0) hk
  by_cases h : u ∈ l
  · obtain ⟨j, hj⟩ := this.1 h
    simp [lookAV, hb, hj, h]
  · simp [lookAV, hb, this.2 h, h]
theorem mupd_keys {H : Heap} {r clock : Nat} {es : List (AV × AV × Nat)} {l : List (List UInt8)} {u : List UInt8} (hb : H[r]? = some (.map es clock)) (hk : KeysOf es l) (hu : u ∉ l) :
    mupdAV H 2 (.map r) (.str u) (.bool true) = some (H.set r (.map (es ++ [(.str u, .bool true, clock)]) (clock + 1))) ∧ KeysOf (es ++ [(.str u, .bool true, clock)]) (l ++ [u]) := by
  have := (find_keys (u := u) (i := 0) hk).2 hu
  refine ⟨by simp [mupdAV, hb, this], ?_⟩
  unfold KeysOf at hk ⊢
  rw [List.map_append, List.map_append, hk]
  rfl

end Go.Ab
