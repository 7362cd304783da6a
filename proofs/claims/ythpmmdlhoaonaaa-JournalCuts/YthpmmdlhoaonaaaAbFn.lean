/-
  The rule of functions: a contract from the calculus over the body.
  Conditions: none.
-/
import Derived.Test.YthpmmdlhoaonaaaAbCode
namespace Go.Ab

def cmpRes (P : Program) : ResultVar → Option MRes
  | .tmp t => some (.tmp t)
  | .cell a t => (aggOf P t).bind fun g => some (.cell a g)

def cmpResL (P : Program) : List ResultVar → Option (List MRes)
  | [] => some []
  | r :: rs => (cmpRes P r).bind fun x => (cmpResL P rs).bind fun xs => some (x :: xs)

def cmpFn (P : Program) (f : Nat) (hs : List RH) : Option MFunc :=
  match P.funcs[f]? with
  | some fn => match fn.body with
    | some c => if (fn.name == "runtime.NumGoroutine") = false then
        (cmpC P fn.ntmps c hs).bind fun x => (cmpResL P fn.results.toList).bind fun rs => some ⟨fn.ntmps, rs, x.1⟩ else none
    | none => none
  | none => none

def resAV (σ : Env) (H : Heap) : List MRes → Option (List AV)
  | [] => some []
  | .tmp t :: rs => (resAV σ H rs).bind fun vs => some (σ.get t :: vs)
  | .cell t g :: rs => (loadAV H g (σ.get t)).bind fun v => (resAV σ H rs).bind fun vs => some (v :: vs)

def oneOf : List AV → AV
  | [v] => v
  | vs => .tup vs

def envOf : List AV → Nat → Env
  | [], _ => []
  | a :: as, i => (i, a) :: envOf as (i + 1)

theorem envOf_get : ∀ (as : List AV) (i t : Nat), (envOf as i).get t = if i ≤ t then (as[t - i]?).getD .undef else .undef
  | [], i, t => by simp [envOf, Env.get]
  | a :: as, i, t => by
    simp only [envOf, Env.get, envOf_get as (i + 1) t]
    by_cases h : i = t
    · subst h; simp
    · by_cases h2 : i ≤ t
      · have e : t - i = (t - (i + 1)) + 1 := by omega
        rw [if_neg h, if_pos (by omega), if_pos h2, e, List.getElem?_cons_succ]
      · rw [if_neg h, if_neg (by omega), if_neg h2]

/-- What a call gives back, told otherwise. -/
def Fin (H0 : Heap) (v1 : AV) (H1 : Heap) (v : AV) (H' : Heap) : Prop :=
  ∀ X0 w0 X w u, HRel X0 H0 w0 → X0.top = H0.length → Stp X0 w0 X w → HRel X H1 w → VRel X w v1 u → ∃ X', HRel X' H' w ∧ VRel X' w v u ∧ Stp X0 w0 X' w

theorem Fin.refl (H0 : Heap) (v : AV) (H : Heap) : Fin H0 v H v H := fun _ _ X _ _ _ _ h1 h2 h3 => ⟨X, h2, h3, h1⟩

def res1 (tmps : Array Value) : ResultVar → Sem Value
  | .tmp t => pure (tmps.getD t undef)
  | .cell a t => do loadVar t (← asAddr (tmps.getD a undef))

def oneV : List Value → Value
  | [u] => u
  | us => .tuple us.toArray

theorem results_eq (fn : Func) (tmps : Array Value) (P : Program) (w : World) {us : List Value} (h : (fn.results.toList.mapM (res1 tmps)).run P w = .ok us w) :
    (results fn tmps).run P w = .ok (oneV us) w := by
  have e : results fn tmps = (fn.results.mapM (res1 tmps) >>= fun vs => pure (if h : vs.size = 1 then vs[0] else .tuple vs)) := by
    unfold results
    congr 1
  rw [e, Array.mapM_eq_mapM_toList, map_eq_pure_bind, Sem.run_bind, Sem.run_bind, h]
  simp only [Result.andThen_ok, Sem.run_pure]
  match us with
  | [] => simp [oneV]
  | [u] => simp [oneV]
  | u :: v :: us => simp [oneV]

theorem results_run {P : Program} {fn : Func} {X : Ctx} {w : World} {σ : Env} {H : Heap} (hH : HRel X H w) {tmps : Array Value} (hF : FRel X w σ tmps) {rs : List MRes} (hr : cmpResL P fn.results.toList = some rs) {vs : List AV}
    (hv : resAV σ H rs = some vs) : ∃ u, (results fn tmps).run P w = .ok u w ∧ VRel X w (oneOf vs) u := by
  have key : ∀ (l : List ResultVar) {rs : List MRes} {vs : List AV}, cmpResL P l = some rs → resAV σ H rs = some vs →
      ∃ us, (l.mapM (res1 tmps)).run P w = .ok us w ∧ VRels X w vs us := by
    intro l
    induction l with
    | nil =>
      intro rs vs h1 h2
      simp only [cmpResL, Option.some.injEq] at h1
      subst h1
      simp only [resAV, Option.some.injEq] at h2
      subst h2
      exact ⟨[], by simp, .nil X w⟩
    | cons r l ih =>
      intro rs vs h1 h2
      simp only [cmpResL, Option.bind_eq_some_iff, Option.some.injEq] at h1
      obtain ⟨x, hx, xs, hxs, rfl⟩ := h1
      cases r with
      | tmp t =>
        simp only [cmpRes, Option.some.injEq] at hx
        subst hx
        simp only [resAV, Option.bind_eq_some_iff, Option.some.injEq] at h2
        obtain ⟨vs', h3, rfl⟩ := h2
        obtain ⟨us, k1, k2⟩ := ih hxs h3
        refine ⟨tmps.getD t undef :: us, ?_, .cons (hF t) k2⟩
        simp only [List.mapM_cons, res1, Sem.run_bind, Sem.run_pure, Result.andThen_ok, k1]
      | cell a t =>
        simp only [cmpRes, Option.bind_eq_some_iff, Option.some.injEq] at hx
        obtain ⟨g, hg, rfl⟩ := hx
        simp only [resAV, Option.bind_eq_some_iff, Option.some.injEq] at h2
        obtain ⟨v, h3, vs', h4, rfl⟩ := h2
        obtain ⟨us, k1, k2⟩ := ih hxs h4
        obtain ⟨u, m1, m2⟩ := load_ok hH (hF a) P t g v h3 (aggOf_ok hg w)
        refine ⟨u :: us, ?_, .cons m2 k2⟩
        have e : (res1 tmps (.cell a t)).run P w = .ok u w := by
          have hp := hF a
          unfold res1
          show (asAddr (tmps.getD a undef) >>= fun p => loadVar t p).run P w = _
          generalize tmps.getD a undef = q at m1 hp
          generalize σ.get a = ca at hp h3
          cases hp <;> simp only [loadAV, reduceCtorEq] at h3
          all_goals (simp only [Instr.loadAt, Instr.sureAddr, asAddr, Sem.run_bind, Sem.run_pure, Result.andThen_ok] at m1 ⊢; exact m1)
        simp only [List.mapM_cons, Sem.run_bind, e, Sem.run_pure, Result.andThen_ok, k1]
  obtain ⟨us, k1, k2⟩ := key _ hr hv
  refine ⟨_, results_eq fn tmps P w k1, ?_⟩
  obtain ⟨hl, hh⟩ := k2
  match us, vs, hl, hh with
  | [u], [v], _, hh => exact hh 0 v u rfl rfl
  | [], [], _, hh => exact .tup (vs := []) rfl (by simp)
  | u :: u2 :: us, v :: v2 :: vs, hl, hh => exact .tup (vs := u :: u2 :: us) hl hh

theorem frame_start {X : Ctx} {w : World} {args : List AV} {vs : List Value} (h : VRels X w args vs) {N : Nat} (hN : args.length ≤ N) :
    ARel N X w (envOf args 0) { tmps := vs.toArray ++ Array.replicate (N - vs.toArray.size) undef, defers := [] } := by
  have hl := h.1
  refine ⟨fun t => ?_, by simp; omega, rfl⟩
  rw [envOf_get]
  simp only [Nat.zero_le, if_true, Nat.sub_zero]
  by_cases ht : t < args.length
  · have e1 : args[t]? = some args[t] := by simp [ht]
    have e2 : vs[t]? = some (vs[t]'(by omega)) := by simp
    have := h.2 t _ _ e1 e2
    rw [e1]
    simp only [Option.getD_some]
    rw [Array.getD_eq_getD_getElem?, Array.getElem?_append_left (by simp; omega)]
    simpa [e2] using this
  · rw [List.getElem?_eq_none (by omega)]
    exact .undef

/-- The contract of a function from the calculus over its body. -/
theorem spec_of_wp {P : Program} {C : CallR} (hC : ∀ f args H v H', C f args H v H' → Spec P f args H v H') (hm : P.follows .mixedOrders = true) {f : Nat} {hs : List RH} {mf : MFunc}
    (hf : cmpFn P f hs = some mf) {args : List AV} {H0 : Heap} {v : AV} {H' : Heap} (hn : args.length ≤ mf.nparams)
    (h : wpC C H0 mf.body (envOf args 0) H0 fun e σ H1 => (e = .normal ∨ e = .ret) ∧ ∃ vs, resAV σ H1 mf.results = some vs ∧ Fin H0 (oneOf vs) H1 v H') : Spec P f args H0 v H' := by
  unfold cmpFn at hf
  split at hf
  case h_2 => cases hf
  rename_i fn hfn
  split at hf
  case h_2 => cases hf
  rename_i c hc
  split at hf
  case isFalse => cases hf
  rename_i hnm
  simp only [Option.bind_eq_some_iff, Option.some.injEq] at hf
  obtain ⟨x, hx, rs, hrs, rfl⟩ := hf
  refine ⟨⟨fn, hfn, hnm, by simp [hc]⟩, fun X w vs hH hv => calls_of_wp hfn hc ?_⟩
  let X0 : Ctx := { X with top := H0.length }
  have r1 : ∀ {c v}, VRel X w c v → VRel X0 w c v := fun h => VRel.ext (X := X) (X' := X0) (fun _ _ h => h) rfl h
  have hH0 : HRel X0 H0 w := ⟨fun r bi hr => by
    obtain ⟨b, k1, k2⟩ := hH.blk r bi hr
    exact ⟨b, k1, BRel.ext (X := X) (X' := X0) (fun _ _ h => h) rfl k2⟩, hH.inj, hH.own, hH.old, Nat.le_refl _⟩
  have hv0 : VRels X0 w args vs := ⟨hv.1, fun i c u h1 h2 => r1 (hv.2 i c u h1 h2)⟩
  refine wp_mono (wpC_sound hC hm hH0 rfl c hx (Stp.refl X0 w) hH0 (frame_start hv0 hn) h) ?_
  rintro e a w' ⟨ex, σ, H1, X1, k1, ⟨k2, us, k3, k4⟩, k5, k6, k7⟩
  have goal : a.defers = [] ∧ ∃ u, (results fn a.tmps).run P w' = .ok u w' ∧ (∃ v' X', Ending.returned u = .returned v' ∧ VRel X' w' v v' ∧ HRel X' H' w' ∧ Stp X w X' w') := by
    obtain ⟨u, m1, m2⟩ := results_run k6 k5.f hrs k3
    obtain ⟨X2, q1, q2, q3⟩ := k4 X0 w X1 w' u hH0 rfl k7 k6 m2
    let X3 : Ctx := { X2 with top := X.top }
    refine ⟨k5.defers, u, m1, u, X3, rfl, VRel.ext (X := X2) (X' := X3) (fun _ _ h => h) rfl q2, ⟨fun r bi hr => ?_, q1.inj, q1.own, q1.old, ?_⟩, ⟨q3.size, q3.os, q3.tape, q3.output, q3.frame, q3.mono, q3.owned, q3.fresh, q3.new, rfl, fun r bi hr => ?_⟩⟩
    · obtain ⟨b, k1, k2⟩ := q1.blk r bi hr
      exact ⟨b, k1, BRel.ext (X := X2) (X' := X3) (fun _ _ h => h) rfl k2⟩
    · have := q1.top
      have h2 := q3.top
      have h3 := hH.top
      simp only [X3]
      have : X2.top = H0.length := h2
      omega
    · rcases q3.later r bi hr with h | h
      · exact .inl h
      · exact .inr (Nat.le_trans hH.top h)
  cases e with
  | normal => exact goal
  | ret => exact goal
  | exit i => rcases k2 with rfl | rfl <;> exact k1.elim
  | goto i => exact k1.elim
  | panic i => exact k1.elim
  | outgrown => exact k1.elim

end Go.Ab
