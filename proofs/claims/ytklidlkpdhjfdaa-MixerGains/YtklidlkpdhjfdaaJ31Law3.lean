/- MixerGains: the law's function returns true. Conditions: none. -/
import Derived.Test.YtklidlkpdhjfdaaJ31Same
import Derived.Test.YtklidlkpdhjfdaaJ31Lives
namespace Go.Ab.Try.S
open Go.Proofs
open Go.Ab.Try.V (lives8)

theorem gain1_256 {x : Int} (h : -32768 ≤ x ∧ x < 32768) : gain1 256 x = x := by
  unfold gain1 satI
  split <;> omega
theorem gain_256 {l : List Int} (h : okF l) : l.map (gain1 256) = l := by
  have : ∀ x ∈ l, gain1 256 x = id x := fun x hx => gain1_256 (h x hx)
  rw [List.map_congr_left this, List.map_id]

def gainF (l : List Int) (g : Int) : List Int := if g < 0 ∨ 1024 < g then [] else l.map (gain1 g)
def gainE (g : Int) : Nat := if g < 0 ∨ 1024 < g then 3 else 0
theorem gainV_eq (l : List Int) (g : Int) : gainV l g = .tup [.islice (rowsI16 (gainF l g)), .int .u8 (gainE g : Nat)] := by
  unfold gainV gainF gainE
  split <;> rfl

theorem lend_one {H : Heap} {f : List Int} : Lend (H ++ [.rows 0 1 [[.islice (rowsI16 f)]]]) (.slice H.length 0 0 1) (.islice (frRows [f])) := by
  refine .slice ?_ fun i row j c h1 h2 => ?_
  · simp [elems, req, frRows, frRow]
  · exact (frRows_plain [f] row (List.mem_of_getElem? h1) c (List.mem_of_getElem? h2)).2

theorem law3 (l : List Int) (g : Int) (hl : l.length ≤ 9223372036854775807) (hok : okF l) : ∃ H', Spec Try.prog 3 [.islice (rowsI16 l), .int .i64 g] [] (.bool true) H' := by
  refine ⟨[], spec_of_wp (C := Spec Try.prog) (fun _ _ _ _ _ h => h) mixed m3_ok (show 2 ≤ _ by decide) ?_⟩
  unfold m3
  simp [m3r0, m3r1, m3r2, envOf]
  refine ⟨fun h => ?_, fun h => ?_⟩
  · refine vc_call (lives8 _) ?_
    simp
    exact fin_bool rfl
  have hl2 : l.length ≤ 1000 := by omega
  have h9 := fun g => (gain9 l g hl2 hok).frame (Cls.cons (cl_plain (rowsI16_plain l)) (Cls.cons .int .nil)) (cl_gain l g)
  have h10 := fun g => (gain10 l g hl2 hok).frame (Cls.cons (cl_plain (rowsI16_plain l)) (Cls.cons .int .nil)) (cl_gain l g)
  simp only [gainV_eq] at h9 h10
  have hF : (gainF l g).length ≤ 1000 := by unfold gainF; split <;> simp; exact hl2
  have e2 : gainF l 256 = l := by unfold gainF; rw [if_neg (by omega)]; exact gain_256 hok
  have e3 : gainE 256 = 0 := rfl
  simp [m3r3, m3r4, m3r5, m3r6]
  refine vc_call (h9 g _) ?_
  simp
  refine vc_call (h10 g _) ?_
  simp
  refine vc_call (h9 256 _) ?_
  rw [e2, e3]
  simp
  refine vc_call ((same11 [gainF l g] [gainF l g] (by simp) (fun f hf => by simp at hf; subst hf; omega)).lend rfl (fun i c0 c1 a1 a2 => ?_) .bool) ?_
  · match i with
    | 0 => simp at a1 a2; subst a1 a2; exact lend_one (H := [])
    | 1 => simp at a1 a2; subst a1 a2; exact .pure (cl_plain (frRows_plain [gainF l g]))
    | i + 2 => simp at a1
  simp
  refine vc_call ((same11 [l] [l] (by simp) (fun f hf => by simp at hf; subst hf; omega)).lend rfl (fun i c0 c1 a1 a2 => ?_) .bool) ?_
  · match i with
    | 0 => simp at a1 a2; subst a1 a2; exact lend_one (H := [_])
    | 1 => simp at a1 a2; subst a1 a2; exact .pure (cl_plain (frRows_plain [l]))
    | i + 2 => simp at a1
  simp
  refine vc_call (lives8 _) ?_
  simp
  exact fin_bool rfl
end Go.Ab.Try.S
