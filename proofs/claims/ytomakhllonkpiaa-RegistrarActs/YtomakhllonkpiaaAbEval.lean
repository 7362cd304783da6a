/-
  Loops over iterators: their translation, and that the calculus speaks of the model's runs of them.
  Conditions: none.
-/
import Derived.Test.YtomakhllonkpiaaAbCode
import Derived.RangeFuncLeaves
import Derived.RangeFuncRecord
namespace Go.Ab

def rf0 : RF := fun _ _ _ _ _ => none

/-- The hint names the iterator's function; behind it come the hints of what is done ahead of a round, of the body, of the iterator. -/
def rf1 (P : Program) (N : Nat) : RF := fun g ps as bd hs =>
  match hs with
  | [] => none
  | h :: hs => if ps.toList.all (fun t => decide (t < N)) = true then
      (cmpOpd g).bind fun x => (cmpC P N rf0 as hs).bind fun y => (cmpC P N rf0 bd y.2).bind fun z =>
        (P.funcs[h.u]?).bind fun fn => fn.body.bind fun c => if (fn.name == "runtime.NumGoroutine") = false ∧ fn.results = #[] then
          (cmpC P fn.ntmps rf0 c z.2).bind fun i => some (.rangef x ps.toList y.1 z.1 h.u fn.ntmps i.1 h.keep, i.2) else none
    else none

theorem putAll_rel {N : Nat} {X : Ctx} {w : World} : ∀ {ps : List Nat} {args : List AV} {vs : List Value} {σ : Env} {tmps : Array Value}, ARel N [] X w σ ⟨tmps, []⟩ → VRels X w args vs → args.length = ps.length → (∀ t ∈ ps, t < N) →
    ARel N [] X w (putAll σ ps args) ⟨(ps.zip vs).foldl (fun tmps p => tmps.setIfInBounds p.1 p.2) tmps, []⟩
  | [], [], vs, σ, tmps, h, hv, hl, hp => by simpa [putAll] using h
  | t :: ps, v :: args, [], σ, tmps, h, hv, hl, hp => by have := hv.1; simp at this
  | t :: ps, v :: args, u :: vs, σ, tmps, h, hv, hl, hp => by
    have h1 := h.put (dst := some t) (by simp [dstOk, hp t (by simp)]) (hv.2 0 v u rfl rfl)
    exact putAll_rel (ps := ps) h1 ⟨by have := hv.1; simpa using this, fun i c u a b => hv.2 (i + 1) c u (by simpa using a) (by simpa using b)⟩ (by simpa using hl) (fun t ht => hp t (by simp [ht]))
  | [], v :: args, vs, σ, tmps, h, hv, hl, hp => by simp at hl
  | t :: ps, [], vs, σ, tmps, h, hv, hl, hp => by simp at hl

theorem envOf_get : ∀ (as : List AV) (i t : Nat), (envOf as i).get t = if i ≤ t then (as[t - i]?).getD .undef else .undef
  | [], i, t => by simp [envOf, Env.get]
  | a :: as, i, t => by
    simp only [envOf, Env.get, envOf_get as (i + 1) t]
    by_cases h : i = t
    · subst h; simp
    · by_cases h2 : i ≤ t
      · have e : t - i = (t - (i + 1)) + 1 := by omega
        rw [if_neg h, if_pos (by omega), if_pos h2, e, List.getElem?_cons_succ]
      · rw [if_neg h, if_neg (by omega), if_neg h2]

theorem frame_start {X : Ctx} {w : World} {args : List AV} {vs : List Value} (h : VRels X w args vs) {N : Nat} (hN : args.length ≤ N) :
    ARel N [] X w (envOf args 0) { tmps := vs.toArray ++ Array.replicate (N - vs.toArray.size) undef, defers := [] } := by
  have hl := h.1
  refine ⟨fun t => ?_, by simp; omega, rfl⟩
  rw [envOf_get]
  simp only [Nat.zero_le, if_true, Nat.sub_zero]
  by_cases ht : t < args.length
  · have e1 : args[t]? = some args[t] := by simp [ht]
    have e2 : vs[t]? = some (vs[t]'(by omega)) := by simp
    have := h.2 t _ _ e1 e2
    rw [e1]
    simp only [Option.getD_some]
    rw [Array.getD_eq_getD_getElem?, Array.getElem?_append_left (by simp; omega)]
    simpa [e2] using this
  · rw [List.getElem?_eq_none (by omega)]
    exact .undef

/-- The marks are come to, one by one. -/
theorem leave_marks {P : Program} {n : Nat} {fn : Func} {tmps : Array Value} {R : Ending → World → Prop} {X0 X : Ctx} {w0 : World} {H : Heap} {σ : Env} : ∀ {D : List Deferred} {w : World}, Marks w0.heap.size X w D → HRel X H w → Stp X0 w0 X w → FRel X w σ tmps →
    (∀ w', HRel X H w' → Stp X0 w0 X w' → FRel X w' σ tmps → ∃ v, (results fn tmps).run P w' = .ok v w' ∧ R (.returned v) w') → LeavesInM Fence.wide n P fn tmps R D .returning w
  | [], w, _, hH, hs, hF, h => h w hH hs hF
  | d :: D, w, hM, hH, hs, hF, h => by
    obtain ⟨r, h1, h2, h3, h4⟩ := hM.all d (by simp)
    obtain ⟨k1, k2, k3⟩ := Shut (o := .deferred none) h3 h4 h2 hH hs
    refine ⟨by simp, .inl ⟨r, _, by rw [h1], run_takeDeferred h3, leave_marks (D := D) ⟨fun d' hd' => ?_, (List.pairwise_cons.1 hM.dif).2⟩ k1 k2 (fun t => k3 _ _ (hF t)) h⟩⟩
    obtain ⟨r', q1, q2, q3, q4⟩ := hM.all d' (by simp [hd'])
    refine ⟨r', q1, q2, ?_, q4⟩
    have hne : r ≠ r' := by
      intro e
      subst e
      exact (List.pairwise_cons.1 hM.dif).1 d' hd' (h1.trans q1.symm)
    simp only [World.putObj, Array.getElem?_setIfInBounds_ne hne]
    exact q3

/-- The same context, numbered on from here. -/
theorem retop {X : Ctx} {w : World} {H : Heap} (hH : HRel X H w) : HRel { X with top := H.length } H w :=
  ⟨fun r bi hr => by
    obtain ⟨b, k1, k2⟩ := hH.blk r bi hr
    exact ⟨b, k1, BRel.ext (X := X) (X' := { X with top := H.length }) (fun _ _ h => h) rfl k2⟩, hH.inj, hH.own, hH.old, Nat.le_refl _⟩

/-- Back in the context that was. -/
theorem untop {X X' : Ctx} {w w' : World} {H H' : Heap} (hH : HRel X H w) (h : HRel X' H' w') (hs : Stp { X with top := H.length } w X' w') : HRel { X' with top := X.top } H' w' ∧ Stp X w { X' with top := X.top } w' := by
  refine ⟨⟨fun k bi hk => ?_, h.inj, h.own, h.old, ?_⟩, ⟨hs.size, hs.os, hs.tape, hs.output, hs.frame, hs.mono, hs.owned, hs.fresh, hs.new, rfl, fun r bi hr => ?_⟩⟩
  · obtain ⟨b, k1, k2⟩ := h.blk k bi hk
    exact ⟨b, k1, BRel.ext (X := X') (X' := { X' with top := X.top }) (fun _ _ h => h) rfl k2⟩
  · have g1 := h.top
    have g3 := hH.top
    show X.top ≤ _
    have : X'.top = H.length := hs.top
    omega
  · rcases hs.later r bi hr with h | h
    · exact .inl h
    · exact .inr (Nat.le_trans hH.top h)

theorem AM.step {N B0 : Nat} {X X' : Ctx} {w w' : World} {H : Heap} {σ : Env} {a : Act} (hH : HRel X H w) (hs : Stp X w X' w') (h : AM N B0 X w σ a) : AM N B0 X' w' σ a := by
  obtain ⟨D, h, k⟩ := h
  exact ⟨D, ⟨h.f.step hH hs, h.size, h.defers⟩, k.step hH hs⟩

/-- The record's block where the abstract has it. -/
theorem lrec_at {X : Ctx} {w : World} {H : Heap} (hH : HRel X H w) {r : Nat} {bi bi0 : BI} (hr : X.blk r = some bi) (_hg : bi0.g ≤ bi.g) (he : bi.g = bi0.g → bi = bi0) (h0 : bi0.g = 0) {σ0 : Env} {L : Loop} {s : LoopState} {p : Option Code} (hb : H[r]? = some (lrecS σ0 L s p)) :
    bi = bi0 ∧ w.heap[bi.B]? = some (.loop { L with state := s, pending := p }) ∧ FRel X w σ0 L.tmps := by
  obtain ⟨b, h1, h2⟩ := hH.blk r bi hr
  rw [hb] at h1
  cases h1
  cases h2 with
  | lrec q1 q2 q3 => exact ⟨he (by omega), q2, q3⟩

/-- The record is turned. -/
theorem lrec_set {X : Ctx} {w : World} {H : Heap} (hH : HRel X H w) {r : Nat} {bi : BI} (hr : X.blk r = some bi) {σ0 : Env} {L : Loop} {s s' : LoopState} {p p' : Option Code} (hb : H[r]? = some (lrecS σ0 L s p)) :
    HRel (X.set r bi) (H.set r (lrecS σ0 L s' p')) (w.putObj bi.B (.loop { L with state := s', pending := p' })) ∧ Stp X w (X.set r bi) (w.putObj bi.B (.loop { L with state := s', pending := p' })) := by
  obtain ⟨b, h1, h2⟩ := hH.blk r bi hr
  rw [hb] at h1
  cases h1
  cases h2 with
  | lrec q1 q2 q3 =>
    have hlt := (Array.getElem?_eq_some_iff.1 q2).1
    have u : Upd X w r bi bi (w.putObj bi.B (.loop { L with state := s', pending := p' })) :=
      ⟨hr, by simp, rfl, rfl, rfl, fun b _ hne => World.putObj_heap_other hne, .inl rfl, .inl rfl, by simpa using hlt⟩
    have st := u.stp hH.own
    exact ⟨u.hrel hH (.lrec q1 (World.putObj_heap_same hlt) (fun t => (q3 t).step hH st)), st⟩

section
variable {P : Program} {C : CallR} {N : Nat}

theorem round_sound (hC : COk P C) (hm : P.follows .mixedOrders = true) {ps : Array Tmp} {as bd : Code} {y z : MCode × List RH} {hs : List RH} (hy : cmpC P N rf0 as hs = some y) (hz : cmpC P N rf0 bd y.2 = some z) {r : Nat} {σ0 : Env} {L : Loop}
    (hL : L.params = ps ∧ L.assign = as ∧ L.body = bd ∧ L.tmps.size = N) (hps : ∀ t ∈ ps.toList, t < N) {args : List AV} {H1 : Heap} {v : AV} {H2 : Heap}
    (h : args.length = ps.toList.length ∧ H1[r]? = some (lrecS σ0 L .ready none) ∧
      wpC C H1 y.1 (putAll σ0 ps.toList args) H1 fun e σ1 Ha => e = .normal ∧ Ha[r]? = some (lrecS σ0 L .ready none) ∧
        wpC C H1 z.1 σ1 (Ha.set r (lrecS σ0 L .busy none)) fun e2 _ Hb => Hb[r]? = some (lrecS σ0 L .busy none) ∧
          v = .bool (decide (e2 = .normal)) ∧ H2 = Hb.set r (lrecS σ0 L (if e2 = .normal then .ready else .done) (codeOf e2))) : YSpec P r args H1 v H2 := by
  obtain ⟨hal, hr1, hwp⟩ := h
  obtain ⟨l1, l2, l3, l4⟩ := hL
  have hRF : ∀ {B : Heap} {n : Nat} {ro : Option Nat} {X0 : Ctx} {w0 : World}, ∀ g ps as bd hs m hs', rf0 g ps as bd hs = some (m, hs') → ∀ {Q : Ex → Env → Heap → Prop} {σ : Env} {H : Heap} {X : Ctx} {w : World} {a : Act}, Stp X0 w0 X w → HRel X H w → AM N w0.heap.size X w σ a → wpC C B m σ H Q →
      (Code.rangeFunc g ps as bd).wpIn (fen ro) n P (Post N X0 w0 Q) a w := fun _ _ _ _ _ _ _ h => by cases h
  refine ⟨⟨_, _, hr1⟩, fun X w vs bi hH hv hr => ?_⟩
  have hg0 : bi.g = 0 := by
    obtain ⟨b, h1, h2⟩ := hH.blk r bi hr
    rw [hr1] at h1
    cases h1
    cases h2 with
    | lrec q1 _ _ => exact q1
  obtain ⟨_, q2, q3⟩ := lrec_at hH hr (Nat.le_refl _) (fun _ => rfl) hg0 hr1
  let X0 : Ctx := { X with top := H1.length }
  have r1 : ∀ {c v}, VRel X w c v → VRel X0 w c v := fun h => VRel.ext (X := X) (X' := X0) (fun _ _ h => h) rfl h
  have hH0 : HRel X0 H1 w := ⟨fun r bi hr => by
    obtain ⟨b, k1, k2⟩ := hH.blk r bi hr
    exact ⟨b, k1, BRel.ext (X := X) (X' := X0) (fun _ _ h => h) rfl k2⟩, hH.inj, hH.own, hH.old, Nat.le_refl _⟩
  have hv0 : VRels X0 w args vs := ⟨hv.1, fun i c u h1 h2 => r1 (hv.2 i c u h1 h2)⟩
  have hsz : vs.toArray.size = L.params.size := by
    have := hv.1
    simp only [List.size_toArray, l1]
    simp only [Array.length_toList] at hal
    omega
  refine ⟨L.fn, _, as, bd, by rw [run_yield q2 hsz, l2, l3], fun n => ?_⟩
  have htm : ((L.params.zip vs.toArray).foldl (fun tmps (t, a) => tmps.setIfInBounds t a) L.tmps) = (ps.toList.zip vs).foldl (fun tmps p => tmps.setIfInBounds p.1 p.2) L.tmps := by
    rw [← Array.foldl_toList, Array.toList_zip, l1]
  have hA0 : ARel N [] X0 w (putAll σ0 ps.toList args) ⟨_, []⟩ := putAll_rel (tmps := L.tmps) ⟨fun t => r1 (q3 t), l4, rfl⟩ hv0 hal hps
  rw [htm]
  refine roundIn_of_wpIn (F := Fence.wide) trivial (wpIn_mono (wpC_sound (ro := some bi.B) (n := n) hC hm hH0 rfl hRF as hy (Stp.refl X0 w) hH0 ⟨[], hA0, Marks.nil⟩ hwp) ?_)
  rintro e a1 w1 ⟨ex, σ1, Ha, X1, k1, ⟨rfl, kr, kw⟩, k3, k4, k5⟩
  cases e with
  | normal =>
    obtain ⟨b1, m1, m2, m3⟩ := k5.mono r bi hr
    obtain ⟨e1, m4, _⟩ := lrec_at k4 m1 m2 m3 hg0 kr
    subst e1
    obtain ⟨n1, n2⟩ := lrec_set k4 m1 kr (s' := .busy) (p' := none)
    refine ⟨_, run_beginRound m4 rfl, ?_⟩
    refine wpIn_mono (wpC_sound (ro := some b1.B) (n := n) hC hm hH0 rfl hRF bd hz (k5.trans n2) n1 (k3.step k4 n2) kw) ?_
    rintro e a2 w2 ⟨e2, σ2, Hb, X2, j1, ⟨jr, jv, jH⟩, j3, j4, j5⟩
    obtain ⟨b2, p1, p2, p3⟩ := j5.mono r b1 hr
    obtain ⟨e3, p4, _⟩ := lrec_at j4 p1 p2 p3 hg0 jr
    subst e3
    have fin : ∀ (jump : Option Code), H2 = Hb.set r (lrecS σ0 L (if jump.isNone then .ready else .done) jump) → v = .bool jump.isNone →
        ∃ v' w', (Instr.endRound b2.B jump).run P w2 = .ok v' w' ∧ ∃ v'' X', Ending.returned v' = .returned v'' ∧ VRel X' w' v v'' ∧ HRel X' H2 w' ∧ Stp X w X' w' := by
      intro jump hH2 hv2
      obtain ⟨t1, t2⟩ := lrec_set j4 p1 jr (s' := if jump.isNone then .ready else .done) (p' := jump)
      refine ⟨_, _, run_endRound jump p4, .bool jump.isNone, { X2.set r b2 with top := X.top }, rfl, by rw [hv2]; exact .bool, ?_, ?_⟩
      · rw [hH2]
        refine ⟨fun k bi hk => ?_, t1.inj, t1.own, t1.old, ?_⟩
        · obtain ⟨b, k1, k2⟩ := t1.blk k bi hk
          exact ⟨b, k1, BRel.ext (X := X2.set r b2) (X' := { X2.set r b2 with top := X.top }) (fun _ _ h => h) rfl k2⟩
        · have g1 := t1.top
          have g2 := (j5.trans t2).top
          have g3 := hH.top
          show X.top ≤ _
          have : (X2.set r b2).top = H1.length := g2
          omega
      · have q := j5.trans t2
        exact ⟨q.size, q.os, q.tape, q.output, q.frame, q.mono, q.owned, q.fresh, q.new, rfl, fun r bi hr => by
          rcases q.later r bi hr with h | h
          · exact .inl h
          · exact .inr (Nat.le_trans hH.top h)⟩
    cases e with
    | normal =>
      cases e2 with
      | normal => exact fin none (by simpa [codeOf] using jH) (by simpa using jv)
      | exit i => exact j1.elim
      | ret => exact j1.elim
    | exit i =>
      cases e2 with
      | normal => exact j1.elim
      | exit j =>
        have : i = j := j1
        subst this
        exact fin (some (.exit i)) (by simpa [codeOf] using jH) (by simpa using jv)
      | ret => exact j1.elim
    | ret =>
      cases e2 with
      | normal => exact j1.elim
      | exit j => exact j1.elim
      | ret => exact fin (some .ret) (by simpa [codeOf] using jH) (by simpa using jv)
    | goto l => exact j1.elim
    | panic l => exact j1.elim
    | outgrown => exact j1.elim
  | exit i => exact k1.elim
  | ret => exact k1.elim
  | goto l => exact k1.elim
  | panic l => exact k1.elim
  | outgrown => exact k1.elim

theorem yield_ok (hC : COk P C) (hm : P.follows .mixedOrders = true) {ps : Array Tmp} {as bd : Code} {y z : MCode × List RH} {hs : List RH} (hy : cmpC P N rf0 as hs = some y) (hz : cmpC P N rf0 bd y.2 = some z) {r : Nat} {σ0 : Env} {L : Loop}
    (hL : L.params = ps ∧ L.assign = as ∧ L.body = bd ∧ L.tmps.size = N) (hps : ∀ t ∈ ps.toList, t < N) :
    COk P (yieldC C r fun args H1 v H2 => args.length = ps.toList.length ∧ H1[r]? = some (lrecS σ0 L .ready none) ∧
      wpC C H1 y.1 (putAll σ0 ps.toList args) H1 fun e σ1 Ha => e = .normal ∧ Ha[r]? = some (lrecS σ0 L .ready none) ∧
        wpC C H1 z.1 σ1 (Ha.set r (lrecS σ0 L .busy none)) fun e2 _ Hb => Hb[r]? = some (lrecS σ0 L .busy none) ∧
          v = .bool (decide (e2 = .normal)) ∧ H2 = Hb.set r (lrecS σ0 L (if e2 = .normal then .ready else .done) (codeOf e2))) where
  fn f args H v H' hf h := by
    cases f with
    | zero => exact absurd rfl hf
    | succ f => exact hC.fn _ _ _ _ _ hf h
  yld r' args H v H' h := by
    obtain ⟨rfl, h⟩ := h
    exact round_sound hC hm hy hz hL hps h

theorem alloc_stp {X : Ctx} {H : Heap} {w : World} (hH : HRel X H w) (o : Obj) : HRel X H (w.alloc o) ∧ Stp X w X (w.alloc o) := by
  have same : ∀ b, b < w.heap.size → (w.alloc o).heap[b]? = w.heap[b]? := fun b hb => by
    show (w.heap.push o)[b]? = _
    rw [Array.getElem?_push, if_neg (Nat.ne_of_lt hb)]
  have st : Stp X w X (w.alloc o) := ⟨by simp, rfl, rfl, rfl, fun b hb _ => same b hb, fun r bi hr => ⟨bi, hr, Nat.le_refl _, fun _ => rfl⟩, fun _ h => h, fun r bi hr => .inr ⟨bi, hr, rfl⟩, fun _ h => .inl h, rfl, fun r bi hr => .inl ⟨bi, hr⟩⟩
  refine ⟨⟨fun r bi hr => ?_, hH.inj, hH.own, fun b hb => by have := hH.old b hb; simp; omega, hH.top⟩, st⟩
  obtain ⟨b, k1, k2⟩ := hH.blk r bi hr
  exact ⟨b, k1, k2.keep hH st (same _ (hH.old _ (hH.own r bi hr)))⟩

theorem range_sound (hC : COk P C) (hm : P.follows .mixedOrders = true) {base : Heap} {n : Nat} {X0 : Ctx} {w0 : World} : ∀ g ps as bd hs m hs', rf1 P N g ps as bd hs = some (m, hs') → ∀ {Q : Ex → Env → Heap → Prop} {σ : Env} {H : Heap} {X : Ctx} {w : World} {a : Act},
    Stp X0 w0 X w → HRel X H w → AM N w0.heap.size X w σ a → wpC C base m σ H Q → (Code.rangeFunc g ps as bd).wpIn (fen none) n P (Post N X0 w0 Q) a w := by
  intro g ps as bd hs m hs' hc Q σ H X w a h1 h2 h3 h4
  cases hs with
  | nil => simp [rf1] at hc
  | cons h hs =>
  simp only [rf1] at hc
  split at hc
  case isFalse => cases hc
  rename_i hps
  simp only [Option.bind_eq_some_iff] at hc
  obtain ⟨x, hx, y, hy, z, hz, fn, hfn, c, hcb, hc⟩ := hc
  split at hc
  case isFalse => cases hc
  rename_i hnm
  simp only [Option.bind_eq_some_iff, Option.some.injEq, Prod.mk.injEq] at hc
  obtain ⟨i, hi, rfl, rfl⟩ := hc
  obtain ⟨first, cap, hxv, hnp, hLp⟩ := h4
  obtain ⟨D, hA, hM⟩ := h3
  have hv := opd_ok hA.f hx
  rw [hxv] at hv
  generalize hq : a.eval g = vg at hv
  cases hv with
  | @func _ _ _ us vs f1 f2 f3 f4 =>
  refine wpIn_rangeFunc ?_
  intro fnid _
  obtain ⟨L, hLd⟩ : ∃ L : Loop, L = { state := .ready, pending := none, fn := fnid, tmps := a.tmps, params := ps, assign := as, body := bd, defers := w.heap.size } := ⟨_, rfl⟩
  obtain ⟨hA1, sA⟩ := alloc_stp h2 (.deferred (some []))
  let bi : BI := ⟨0, w.heap.size + 1, 0, 0, 0⟩
  let w1 := (w.alloc (.deferred (some []))).alloc (.loop L)
  have hnew : New X (w.alloc (.deferred (some []))) H.length bi w1 := ⟨h2.free (Nat.le_refl _), h2.top, by simp [w1], rfl, rfl, rfl, fun b hb => by
    show ((w.alloc (.deferred (some []))).heap.push (.loop L))[b]? = _
    rw [Array.getElem?_push, if_neg (Nat.ne_of_lt hb)], by simp [bi], by simp [bi, w1]⟩
  have sN := hnew.stp
  have hN : HRel (X.set H.length bi) (H ++ [lrecS (σ.keep h.keep) L .ready none]) w1 := hnew.hrel hA1 (.lrec rfl (by
    have e : L = { L with state := .ready, pending := none } := by subst hLd; rfl
    rw [← e]
    have := World.alloc_heap_new (w.alloc (.deferred (some []))) (.loop L)
    rwa [World.size_alloc] at this) (fun t => by subst hLd; exact ((hA.f.keep h.keep) t).step h2 (sA.trans sN)))
  have hg1 : (X.set H.length bi).blk H.length = some bi := by simp [Ctx.set]
  have hmk : w1.heap[w.heap.size]? = some (.deferred (some [])) := by
    show ((w.alloc (.deferred (some []))).heap.push (.loop L))[w.heap.size]? = _
    rw [Array.getElem?_push, if_neg (by simp)]
    exact World.alloc_heap_new w _
  have hC' := yield_ok hC hm hy hz (σ0 := σ.keep h.keep) (r := H.length) (L := L) ⟨by subst hLd; rfl, by subst hLd; rfl, by subst hLd; rfl, by subst hLd; exact hA.size⟩ (fun t ht => by have := List.all_eq_true.1 hps t ht; simpa using this)
  have hargs : VRels (X.set H.length bi) w1 (first ++ [.yld H.length] ++ cap) (us ++ [Value.func (Fn.yield (w.heap.size + 1)) #[] #[]] ++ vs) := by
    have q1 : VRels (X.set H.length bi) w1 first us := ⟨f1, fun i c v a b => (f3 i c v a b).step h2 (sA.trans sN)⟩
    have q2 : VRels (X.set H.length bi) w1 cap vs := ⟨f2, fun i c v a b => (f4 i c v a b).step h2 (sA.trans sN)⟩
    have q3 : VRels (X.set H.length bi) w1 [.yld H.length] [Value.func (Fn.yield (w.heap.size + 1)) #[] #[]] := ⟨rfl, fun i c v a b => by
      match i, a, b with
      | 0, rfl, rfl => exact .yld hg1 (fun _ => rfl)⟩
    exact (q1.append q3).append q2
  have hargs1 : VRels { X.set H.length bi with top := (H ++ [lrecS (σ.keep h.keep) L .ready none]).length } w1 (first ++ [.yld H.length] ++ cap) (us ++ [Value.func (Fn.yield (w.heap.size + 1)) #[] #[]] ++ vs) :=
    ⟨hargs.1, fun i c v a b => VRel.ext (X := X.set H.length bi) (X' := { X.set H.length bi with top := (H ++ [lrecS (σ.keep h.keep) L .ready none]).length }) (fun _ _ h => h) rfl (hargs.2 i c v a b)⟩
  refine ⟨w.heap.size + 1, [{ target := .collected w.heap.size, args := #[] }], w1, { target := .fn (.func h.u) vs.toArray, args := us.toArray ++ #[Value.func (Fn.yield (w.heap.size + 1)) #[] #[]] }, w1, h.u,
    (us ++ [Value.func (Fn.yield (w.heap.size + 1)) #[] #[]] ++ vs).toArray, w1, by subst hLd; exact run_enterLoop_outer _ _ _ _ _, ?_, fun _ _ => trivial, ?_, fun h => (nomatch h), ?_⟩
  · simp only [resolve, hq, Deferred.ofValue]
    simp [go_sem]
  · have := callFunc_run (P := P) (f := h.u) ⟨fn, hfn, hnm.1, by simp [hcb]⟩ (us ++ [Value.func (Fn.yield (w.heap.size + 1)) #[] #[]] ++ vs).toArray w1
    simp only [invoke]
    rw [← this]
    congr 2
    simp
  · let RR : Ending → World → Prop := fun e w3 => ∃ v X3 H3 ex s, e = .returned v ∧ s ≠ LoopState.busy ∧ H3[H.length]? = some (lrecS (σ.keep h.keep) L s (codeOf ex)) ∧ Q ex (σ.keep h.keep) (H3.set H.length (lrecS (σ.keep h.keep) L .exhausted (codeOf ex))) ∧
        HRel X3 H3 w3 ∧ Stp (X.set H.length bi) w1 X3 w3
    refine CallsIn.mono (R := RR) ?_ ?_
    · refine callsIn_of_wp_marks hfn hcb trivial (wpIn_mono (wpC_sound (ro := none) (n := n - 1) hC' hm (retop hN) rfl (fun _ _ _ _ _ _ _ h => by cases h) c hi (Stp.refl _ w1) (retop hN) ⟨[], frame_start hargs1 (by simpa using hnp), Marks.nil⟩ (hLp L)) ?_) rfl
      rintro e a1 w2 ⟨ex0, σi, H3, X3, k1, ⟨kn, ex, s, ks, kr, kq⟩, ⟨D1, kA, kM⟩, k4, k5⟩
      have goal : LeavesInM Fence.wide (n - 1) P fn a1.tmps RR a1.defers .returning w2 := by
        rw [kA.defers]
        refine leave_marks kM k4 k5 kA.f ?_
        intro w' k4 k5 _
        obtain ⟨t1, t2⟩ := untop hN k4 k5
        exact ⟨.tuple #[], by simp [results, hnm.2, Sem.run_pure, Result.andThen_ok], _, _, H3, ex, s, rfl, ks, kr, kq, t1, t2⟩
      cases e with
      | normal => exact goal
      | ret => exact goal
      | exit i => rcases kn with rfl | rfl <;> exact k1.elim
      | goto i => exact k1.elim
      | panic i => exact k1.elim
      | outgrown => exact k1.elim
    · rintro e w3 ⟨v, X3, H3, ex, s, rfl, ks, kr, kq, t1, t2⟩
      obtain ⟨b1, m1, m2, m3⟩ := t2.mono H.length bi hg1
      obtain ⟨e1, m4, _⟩ := lrec_at t1 m1 m2 m3 rfl kr
      obtain ⟨n1, n2⟩ := lrec_set t1 m1 kr (s' := .exhausted) (p' := codeOf ex)
      have hend : (Instr.endLoop (w.heap.size + 1)).run P w3 = .ok (codeOf ex) (w3.putObj b1.B (.loop { L with state := .exhausted, pending := codeOf ex })) := by
        rw [show w.heap.size + 1 = b1.B by rw [e1]]
        exact run_endLoop m4 ks
      refine ⟨codeOf ex, _, hend, ?_⟩
      have st := (sA.trans sN).trans (t2.trans n2)
      have hM1 : Marks w0.heap.size (X.set H.length bi) w1 ({ target := .collected w.heap.size, args := #[] } :: D) := by
        have hMs := hM.step h2 (sA.trans sN)
        refine ⟨fun d hd => ?_, List.pairwise_cons.2 ⟨fun d hd => ?_, hMs.dif⟩⟩
        · rcases List.mem_cons.1 hd with rfl | hd
          · refine ⟨w.heap.size, rfl, h1.size, hmk, ?_⟩
            rintro (ho | ho)
            · exact Nat.lt_irrefl _ (h2.old _ ho)
            · simp [bi] at ho
          · exact hMs.all d hd
        · obtain ⟨r, q1, _, q2, _⟩ := hM.all d hd
          have := (Array.getElem?_eq_some_iff.1 q2).1
          rw [q1]
          intro e
          simp at e
          omega
      have am : AM N w0.heap.size (X3.set H.length b1) (w3.putObj b1.B (.loop { L with state := .exhausted, pending := codeOf ex })) (σ.keep h.keep) { a with defers := [{ target := .collected w.heap.size, args := #[] }] ++ a.defers } :=
        ⟨_, ⟨(hA.f.keep _).step h2 st, hA.size, by rw [hA.defers]; rfl⟩, hM1.step hN (t2.trans n2)⟩
      cases ex with
      | normal => exact ⟨.normal, _, _, _, trivial, kq, am, n1, h1.trans st⟩
      | exit i => exact wpIn_exit ⟨.exit i, _, _, _, rfl, kq, am, n1, h1.trans st⟩
      | ret => exact wpIn_ret ⟨.ret, _, _, _, trivial, kq, am, n1, h1.trans st⟩

end
end Go.Ab

/-
  The rule of functions: a contract from the calculus over the body.
  Conditions: none.
-/
namespace Go.Ab

def cmpRes (P : Program) : ResultVar → Option MRes
  | .tmp t => some (.tmp t)
  | .cell a t => (aggOf P t).bind fun g => some (.cell a g)

def cmpResL (P : Program) : List ResultVar → Option (List MRes)
  | [] => some []
  | r :: rs => (cmpRes P r).bind fun x => (cmpResL P rs).bind fun xs => some (x :: xs)

def cmpFn (P : Program) (f : Nat) (hs : List RH) : Option MFunc :=
  match P.funcs[f]? with
  | some fn => match fn.body with
    | some c => if (fn.name == "runtime.NumGoroutine") = false then
        if ((P.funcs[0]?).bind (·.body)).isNone = true then (cmpC P fn.ntmps (rf1 P fn.ntmps) c hs).bind fun x => (cmpResL P fn.results.toList).bind fun rs => some ⟨fn.ntmps, rs, x.1⟩ else none else none
    | none => none
  | none => none

def resAV (σ : Env) (H : Heap) : List MRes → Option (List AV)
  | [] => some []
  | .tmp t :: rs => (resAV σ H rs).bind fun vs => some (σ.get t :: vs)
  | .cell t g :: rs => (loadAV H g (σ.get t)).bind fun v => (resAV σ H rs).bind fun vs => some (v :: vs)

def oneOf : List AV → AV
  | [v] => v
  | vs => .tup vs

/-- What a call gives back, told otherwise. -/
def Fin (H0 : Heap) (v1 : AV) (H1 : Heap) (v : AV) (H' : Heap) : Prop :=
  ∀ X0 w0 X w u, HRel X0 H0 w0 → X0.top = H0.length → Stp X0 w0 X w → HRel X H1 w → VRel X w v1 u → ∃ X', HRel X' H' w ∧ VRel X' w v u ∧ Stp X0 w0 X' w

theorem Fin.refl (H0 : Heap) (v : AV) (H : Heap) : Fin H0 v H v H := fun _ _ X _ _ _ _ h1 h2 h3 => ⟨X, h2, h3, h1⟩

def res1 (tmps : Array Value) : ResultVar → Sem Value
  | .tmp t => pure (tmps.getD t undef)
  | .cell a t => do loadVar t (← asAddr (tmps.getD a undef))

def oneV : List Value → Value
  | [u] => u
  | us => .tuple us.toArray

theorem results_eq (fn : Func) (tmps : Array Value) (P : Program) (w : World) {us : List Value} (h : (fn.results.toList.mapM (res1 tmps)).run P w = .ok us w) :
    (results fn tmps).run P w = .ok (oneV us) w := by
  have e : results fn tmps = (fn.results.mapM (res1 tmps) >>= fun vs => pure (if h : vs.size = 1 then vs[0] else .tuple vs)) := by
    unfold results
    congr 1
  rw [e, Array.mapM_eq_mapM_toList, map_eq_pure_bind, Sem.run_bind, Sem.run_bind, h]
  simp only [Result.andThen_ok, Sem.run_pure]
  match us with
  | [] => simp [oneV]
  | [u] => simp [oneV]
  | u :: v :: us => simp [oneV]

theorem results_run {P : Program} {fn : Func} {X : Ctx} {w : World} {σ : Env} {H : Heap} (hH : HRel X H w) {tmps : Array Value} (hF : FRel X w σ tmps) {rs : List MRes} (hr : cmpResL P fn.results.toList = some rs) {vs : List AV}
    (hv : resAV σ H rs = some vs) : ∃ u, (results fn tmps).run P w = .ok u w ∧ VRel X w (oneOf vs) u := by
  have key : ∀ (l : List ResultVar) {rs : List MRes} {vs : List AV}, cmpResL P l = some rs → resAV σ H rs = some vs →
      ∃ us, (l.mapM (res1 tmps)).run P w = .ok us w ∧ VRels X w vs us := by
    intro l
    induction l with
    | nil =>
      intro rs vs h1 h2
      simp only [cmpResL, Option.some.injEq] at h1
      subst h1
      simp only [resAV, Option.some.injEq] at h2
      subst h2
      exact ⟨[], by simp, .nil X w⟩
    | cons r l ih =>
      intro rs vs h1 h2
      simp only [cmpResL, Option.bind_eq_some_iff, Option.some.injEq] at h1
      obtain ⟨x, hx, xs, hxs, rfl⟩ := h1
      cases r with
      | tmp t =>
        simp only [cmpRes, Option.some.injEq] at hx
        subst hx
        simp only [resAV, Option.bind_eq_some_iff, Option.some.injEq] at h2
        obtain ⟨vs', h3, rfl⟩ := h2
        obtain ⟨us, k1, k2⟩ := ih hxs h3
        refine ⟨tmps.getD t undef :: us, ?_, .cons (hF t) k2⟩
        simp only [List.mapM_cons, res1, Sem.run_bind, Sem.run_pure, Result.andThen_ok, k1]
      | cell a t =>
        simp only [cmpRes, Option.bind_eq_some_iff, Option.some.injEq] at hx
        obtain ⟨g, hg, rfl⟩ := hx
        simp only [resAV, Option.bind_eq_some_iff, Option.some.injEq] at h2
        obtain ⟨v, h3, vs', h4, rfl⟩ := h2
        obtain ⟨us, k1, k2⟩ := ih hxs h4
        obtain ⟨u, m1, m2⟩ := load_ok hH (hF a) P t g v h3 (aggOf_ok hg w)
        refine ⟨u :: us, ?_, .cons m2 k2⟩
        have e : (res1 tmps (.cell a t)).run P w = .ok u w := by
          have hp := hF a
          unfold res1
          show (asAddr (tmps.getD a undef) >>= fun p => loadVar t p).run P w = _
          generalize tmps.getD a undef = q at m1 hp
          generalize σ.get a = ca at hp h3
          cases hp <;> simp only [loadAV, reduceCtorEq] at h3
          all_goals (simp only [Instr.loadAt, Instr.sureAddr, asAddr, Sem.run_bind, Sem.run_pure, Result.andThen_ok] at m1 ⊢; exact m1)
        simp only [List.mapM_cons, Sem.run_bind, e, Sem.run_pure, Result.andThen_ok, k1]
  obtain ⟨us, k1, k2⟩ := key _ hr hv
  refine ⟨_, results_eq fn tmps P w k1, ?_⟩
  obtain ⟨hl, hh⟩ := k2
  match us, vs, hl, hh with
  | [u], [v], _, hh => exact hh 0 v u rfl rfl
  | [], [], _, hh => exact .tup (vs := []) rfl (by simp)
  | u :: u2 :: us, v :: v2 :: vs, hl, hh => exact .tup (vs := u :: u2 :: us) hl hh

/-- The contract of a function from the calculus over its body. -/
theorem spec_of_wp {P : Program} {C : CallR} (hC : ∀ f args H v H', C f args H v H' → Spec P f args H v H') (hm : P.follows .mixedOrders = true) {f : Nat} {hs : List RH} {mf : MFunc}
    (hf : cmpFn P f hs = some mf) {args : List AV} {H0 : Heap} {v : AV} {H' : Heap} (hn : args.length ≤ mf.nparams)
    (h : wpC C H0 mf.body (envOf args 0) H0 fun e σ H1 => (e = .normal ∨ e = .ret) ∧ ∃ vs, resAV σ H1 mf.results = some vs ∧ Fin H0 (oneOf vs) H1 v H') : Spec P f args H0 v H' := by
  unfold cmpFn at hf
  split at hf
  case h_2 => cases hf
  rename_i fn hfn
  split at hf
  case h_2 => cases hf
  rename_i c hc
  split at hf
  case isFalse => cases hf
  rename_i hnm
  split at hf
  case isFalse => cases hf
  rename_i hz0
  have hC' : COk P C := ⟨fun f args H v H' _ h => hC f args H v H' h, fun r args H v H' h => by
    obtain ⟨⟨fn0, q1, _, q2⟩, _⟩ := hC _ _ _ _ _ h
    rw [q1] at hz0
    simp [q2] at hz0⟩
  simp only [Option.bind_eq_some_iff, Option.some.injEq] at hf
  obtain ⟨x, hx, rs, hrs, rfl⟩ := hf
  refine ⟨⟨fn, hfn, hnm, by simp [hc]⟩, fun X w vs hH hv => (callsIn_wide (n := 0)).1 (callsIn_of_wp_marks hfn hc trivial ?_ rfl)⟩
  let X0 : Ctx := { X with top := H0.length }
  have r1 : ∀ {c v}, VRel X w c v → VRel X0 w c v := fun h => VRel.ext (X := X) (X' := X0) (fun _ _ h => h) rfl h
  have hH0 : HRel X0 H0 w := ⟨fun r bi hr => by
    obtain ⟨b, k1, k2⟩ := hH.blk r bi hr
    exact ⟨b, k1, BRel.ext (X := X) (X' := X0) (fun _ _ h => h) rfl k2⟩, hH.inj, hH.own, hH.old, Nat.le_refl _⟩
  have hv0 : VRels X0 w args vs := ⟨hv.1, fun i c u h1 h2 => r1 (hv.2 i c u h1 h2)⟩
  refine wpIn_mono (wpC_sound (ro := none) hC' hm hH0 rfl (range_sound hC' hm) c hx (Stp.refl X0 w) hH0 ⟨[], frame_start hv0 hn, Marks.nil⟩ h) ?_
  rintro e a w' ⟨ex, σ, H1, X1, k1, ⟨k2, us, k3, k4⟩, ⟨D, k5, kM⟩, k6, k7⟩
  have goal : LeavesInM Fence.wide 0 P fn a.tmps (fun e w' => ∃ v' X', e = .returned v' ∧ VRel X' w' v v' ∧ HRel X' H' w' ∧ Stp X w X' w') a.defers .returning w' := by
    rw [k5.defers]
    refine leave_marks kM k6 k7 k5.f ?_
    intro w' k6 k7 kF
    obtain ⟨u, m1, m2⟩ := results_run k6 kF hrs k3
    obtain ⟨X2, q1, q2, q3⟩ := k4 X0 w X1 w' u hH0 rfl k7 k6 m2
    let X3 : Ctx := { X2 with top := X.top }
    refine ⟨u, m1, u, X3, rfl, VRel.ext (X := X2) (X' := X3) (fun _ _ h => h) rfl q2, ⟨fun r bi hr => ?_, q1.inj, q1.own, q1.old, ?_⟩, ⟨q3.size, q3.os, q3.tape, q3.output, q3.frame, q3.mono, q3.owned, q3.fresh, q3.new, rfl, fun r bi hr => ?_⟩⟩
    · obtain ⟨b, k1, k2⟩ := q1.blk r bi hr
      exact ⟨b, k1, BRel.ext (X := X2) (X' := X3) (fun _ _ h => h) rfl k2⟩
    · have := q1.top
      have h2 := q3.top
      have h3 := hH.top
      simp only [X3]
      have : X2.top = H0.length := h2
      omega
    · rcases q3.later r bi hr with h | h
      · exact .inl h
      · exact .inr (Nat.le_trans hH.top h)
  cases e with
  | normal => exact goal
  | ret => exact goal
  | exit i => rcases k2 with rfl | rfl <;> exact k1.elim
  | goto i => exact k1.elim
  | panic i => exact k1.elim
  | outgrown => exact k1.elim

/-- A function of the program is not number 0. -/
theorem Spec.ne0 {P : Program} {f : Nat} {args : List AV} {H : Heap} {v : AV} {H' : Heap} (h : Spec P f args H v H') {g : Nat} {hs : List RH} {m : MFunc} (hg : cmpFn P g hs = some m) : f ≠ 0 := by
  rintro rfl
  obtain ⟨⟨fn, h1, _, h2⟩, _⟩ := h
  unfold cmpFn at hg
  split at hg
  case h_2 => cases hg
  split at hg
  case h_2 => cases hg
  split at hg
  case isFalse => cases hg
  split at hg
  case isFalse => cases hg
  rename_i hz
  rw [h1] at hz
  simp [h2] at hz

end Go.Ab

/-
  The state told anew: blocks that the call made are given up, or turned immutable, or numbered anew.
  Conditions: none.
-/
namespace Go.Ab

/-- A value, and how it is told when of the blocks J made since n those of ks stay. -/
inductive CV (n : Nat) (J : Heap) (ks : List Nat) : AV → AV → Prop
  | undef {c} : CV n J ks c .undef
  | refl {c} : Cl n c → CV n J ks c c
  | nil0 : CV n J ks .nils (.islice [])
  | ptr {i k g a b} : ks[i]? = some k → CV n J ks (.ptr (n + k) g a b) (.ptr (n + i) g a b)
  | slice {i k g a m} : ks[i]? = some k → CV n J ks (.slice (n + k) g a m) (.slice (n + i) g a m)
  | map {i k} : ks[i]? = some k → CV n J ks (.map (n + k)) (.map (n + i))
  | fz {k g s rs a m rows} (f : Nat → Nat → AV) : J[k]? = some (.rows g s rs) → k ∉ ks → a + m ≤ rs.length → rows.length = m → (∀ row ∈ rows, row.length = s) →
      (∀ (i : Nat) row (j : Nat) c, rows[i]? = some row → row[j]? = some c → (∃ row0, rs[a + i]? = some row0 ∧ row0[j]? = some (f i j)) ∧ c.sc = true) →
      (∀ (i : Nat) row (j : Nat) c, rows[i]? = some row → row[j]? = some c → CV n J ks (f i j) c) → CV n J ks (.slice (n + k) g a m) (.islice rows)
  | fzp {k g s rs a b rows} (f : Nat → Nat → AV) : J[k]? = some (.rows g s rs) → k ∉ ks → rows.length = rs.length → (∀ row ∈ rows, row.length = s) →
      (∀ (i : Nat) row (j : Nat) c, rows[i]? = some row → row[j]? = some c → (∃ row0, rs[i]? = some row0 ∧ row0[j]? = some (f i j)) ∧ c.sc = true) →
      (∀ (i : Nat) row (j : Nat) c, rows[i]? = some row → row[j]? = some c → CV n J ks (f i j) c) → CV n J ks (.ptr (n + k) g a b) (.iptr rows a b)
  | agg {cs cs' : List AV} : cs'.length = cs.length → (∀ (i : Nat) c c', cs[i]? = some c → cs'[i]? = some c' → CV n J ks c c') → CV n J ks (.agg cs) (.agg cs')
  | tup {cs cs' : List AV} : cs'.length = cs.length → (∀ (i : Nat) c c', cs[i]? = some c → cs'[i]? = some c' → CV n J ks c c') → CV n J ks (.tup cs) (.tup cs')
  | func {f} {as as' bs bs' : List AV} : as'.length = as.length → bs'.length = bs.length → (∀ (i : Nat) c c', as[i]? = some c → as'[i]? = some c' → CV n J ks c c') →
      (∀ (i : Nat) c c', bs[i]? = some c → bs'[i]? = some c' → CV n J ks c c') → CV n J ks (.func f as bs) (.func f as' bs')

inductive BCV (n : Nat) (J : Heap) (ks : List Nat) : ABlk → ABlk → Prop
  | rows {g s rs rs'} : rs'.length = rs.length → (∀ row ∈ rs', row.length = s) →
      (∀ (i : Nat) row (j : Nat) c, rs'[i]? = some row → row[j]? = some c → (∃ row0 c0, rs[i]? = some row0 ∧ row0[j]? = some c0 ∧ CV n J ks c0 c) ∧ c.sc = true) → BCV n J ks (.rows g s rs) (.rows g s rs')
  | map {es clock} : (∀ (i : Nat) e, es[i]? = some e → Cl n e.1 ∧ Cl n e.2.1) → BCV n J ks (.map es clock) (.map es clock)
  | lrec {σ0 l} : (∀ t, Cl n (Env.get σ0 t)) → BCV n J ks (.lrec σ0 l) (.lrec σ0 l)

/-- The blocks that stay, with their new numbers; the others are nobody's. -/
def Ctx.retold (X : Ctx) (n : Nat) (ks : List Nat) : Ctx where
  blk r := if r < n then X.blk r else (ks[r - n]?).bind fun k => X.blk (n + k)
  owned b := X.owned b ∧ ¬∃ k bi, k ∉ ks ∧ X.blk (n + k) = some bi ∧ bi.B = b
  top := X.top

section
variable {X : Ctx} {w : World} {n : Nat} {J Hm : Heap} {ks : List Nat}

theorem retold_lt {r : Nat} (h : r < n) : (X.retold n ks).blk r = X.blk r := by simp [Ctx.retold, h]
theorem retold_ge {i k : Nat} (h : ks[i]? = some k) : (X.retold n ks).blk (n + i) = X.blk (n + k) := by simp [Ctx.retold, h, show ¬(n + i < n) by omega]
theorem retold_owned {b : Nat} (h : (X.retold n ks).owned b) : X.owned b := h.1
theorem retold_not {k : Nat} (hk : k ∉ ks) {bi : BI} (h : X.blk (n + k) = some bi) : ¬(X.retold n ks).owned bi.B := fun ho => ho.2 ⟨k, bi, hk, h, rfl⟩

theorem cl_retold {c : AV} {v : Value} (hc : Cl n c) (h : VRel X w c v) : VRel (X.retold n ks) w c v := by
  refine VRel.stepO (X := X.cut n) (X' := X.retold n ks) (fun _ _ _ => rfl) (Nat.le_refl _) (fun r bi hr => ?_) (fun b hb => .inl (show X.owned b from retold_owned (n := n) (ks := ks) hb)) (h.cut hc)
  simp only [Ctx.cut] at hr
  split at hr
  · rename_i hlt
    exact ⟨bi, by rw [retold_lt hlt]; exact hr, Nat.le_refl _, fun _ => rfl⟩
  · cases hr

theorem cv_ok (hn : Hm.length = n) (hH : HRel X (Hm ++ J) w) {c c' : AV} (h : CV n J ks c c') : ∀ {v : Value}, VRel X w c v → VRel (X.retold n ks) w c' v := by
  have blkJ : ∀ {k b bi}, J[k]? = some b → X.blk (n + k) = some bi → BRel X w bi b := by
    intro k b bi h1 h2
    obtain ⟨b', k1, k2⟩ := hH.blk _ _ h2
    rw [List.getElem?_append_right (by omega)] at k1
    have : n + k - Hm.length = k := by omega
    rw [this, h1] at k1
    cases k1
    exact k2
  induction h with
  | undef => intro v _; exact .undef
  | refl hc => intro v hv; exact cl_retold hc hv
  | nil0 => intro v hv; cases hv; exact .islice0
  | ptr hk =>
    intro v hv
    cases hv with
    | ptr h1 h2 h3 => exact .ptr (by rw [retold_ge hk]; exact h1) h2 h3
  | slice hk =>
    intro v hv
    cases hv with
    | slice h1 h2 h3 h4 => exact .slice (by rw [retold_ge hk]; exact h1) h2 h3 h4
  | map hk =>
    intro v hv
    cases hv with
    | map h1 h2 => exact .map (by rw [retold_ge hk]; exact h1) h2
  | fz f hJ hk hle hlen hs hcell hsub ih =>
    intro v hv
    rename_i k g s rs a m rows
    cases hv with
    | slice h1 h2 h3 h4 =>
      rename_i ad cap bi
      have hb := blkJ hJ h1
      cases hb with
      | rows e1 e2 e3 e4 e5 e6 e7 e8 =>
        subst e1 e2
        obtain ⟨q1, q2⟩ := h4 rfl
        have cellOf : ∀ (i : Nat) row (j : Nat) c, rows[i]? = some row → row[j]? = some c → ∃ u, w.cell? ⟨bi.B, bi.o + (a + i) * bi.sz + j, none⟩ = some u ∧ VRel X w (f i j) u := by
          intro i row j c a1 a2
          obtain ⟨⟨row0, b1, b2⟩, _⟩ := hcell i row j c a1 a2
          obtain ⟨u, c1, c2, c3⟩ := e8 _ row0 j _ b1 b2
          exact ⟨u, c1, c3⟩
        let F : Nat → Nat → Value := fun i j => (w.cell? ⟨bi.B, bi.o + (a + i) * bi.sz + j, none⟩).getD undef
        have pos : 0 < m → ad = ⟨bi.B, bi.o + a * bi.sz, none⟩ := fun h0 => q1 (by omega)
        refine .islice F hlen h3 hs (fun i row j c a1 a2 => ?_) (fun i row j c a1 a2 => ?_) (fun h0 => ?_)
        · have h0 : 0 < m := by have := (List.getElem?_eq_some_iff.1 a1).1; omega
          obtain ⟨u, c1, c2⟩ := cellOf i row j c a1 a2
          have had := pos h0
          subst had
          refine ⟨?_, (hcell i row j c a1 a2).2⟩
          have : bi.o + a * bi.sz + i * bi.sz + j = bi.o + (a + i) * bi.sz + j := by rw [Nat.add_mul]; omega
          simp only [this, F, c1, Option.getD_some]
        · obtain ⟨u, c1, c2⟩ := cellOf i row j c a1 a2
          have := ih i row j c a1 a2 c2
          simpa [F, c1] using this
        · have had := pos h0
          subst had
          exact ⟨retold_not hk h1, rfl, hH.old _ (hH.own _ _ h1)⟩
  | fzp f hJ hk hlen hs hcell hsub ih =>
    intro v hv
    rename_i k g s rs a b rows
    cases hv with
    | ptr h1 h2 h3 =>
      rename_i ad bi
      have hb := blkJ hJ h1
      cases hb with
      | rows e1 e2 e3 e4 e5 e6 e7 e8 =>
        subst e1 e2
        have had := h3 rfl
        subst had
        have cellOf : ∀ (i : Nat) row (j : Nat) c, rows[i]? = some row → row[j]? = some c → ∃ u, w.cell? ⟨bi.B, bi.o + i * bi.sz + j, none⟩ = some u ∧ VRel X w (f i j) u := by
          intro i row j c a1 a2
          obtain ⟨⟨row0, b1, b2⟩, _⟩ := hcell i row j c a1 a2
          obtain ⟨u, c1, c2, c3⟩ := e8 _ row0 j _ b1 b2
          exact ⟨u, c1, c3⟩
        let F : Nat → Nat → Value := fun i j => (w.cell? ⟨bi.B, bi.o + i * bi.sz + j, none⟩).getD undef
        refine .iptr F hs (fun i row j c a1 a2 => ?_) (fun i row j c a1 a2 => ?_) (retold_not hk h1) (hH.old _ (hH.own _ _ h1))
        · obtain ⟨u, c1, c2⟩ := cellOf i row j c a1 a2
          refine ⟨?_, (hcell i row j c a1 a2).2⟩
          simp only [F, c1, Option.getD_some]
        · obtain ⟨u, c1, c2⟩ := cellOf i row j c a1 a2
          have := ih i row j c a1 a2 c2
          simpa [F, c1] using this
  | agg hl hsub ih =>
    intro v hv
    cases hv with
    | agg h1 h2 =>
      rename_i cs cs' vs
      refine .agg (by omega) (fun i c' v a1 a2 => ?_)
      obtain ⟨c, hc⟩ : ∃ c, cs[i]? = some c := ⟨cs[i]'(by have := (List.getElem?_eq_some_iff.1 a1).1; omega), by simp⟩
      exact ih i c c' hc a1 (h2 i c v hc a2)
  | tup hl hsub ih =>
    intro v hv
    cases hv with
    | tup h1 h2 =>
      rename_i cs cs' vs
      refine .tup (by omega) (fun i c' v a1 a2 => ?_)
      obtain ⟨c, hc⟩ : ∃ c, cs[i]? = some c := ⟨cs[i]'(by have := (List.getElem?_eq_some_iff.1 a1).1; omega), by simp⟩
      exact ih i c c' hc a1 (h2 i c v hc a2)
  | func hl1 hl2 hs1 hs2 i1 i2 =>
    intro v hv
    cases hv with
    | func h1 h2 h3 h4 =>
      rename_i f as as' bs bs' us vs
      refine .func (by omega) (by omega) (fun i c' v a1 a2 => ?_) (fun i c' v a1 a2 => ?_)
      · obtain ⟨c, hc⟩ : ∃ c, as[i]? = some c := ⟨as[i]'(by have := (List.getElem?_eq_some_iff.1 a1).1; omega), by simp⟩
        exact i1 i c c' hc a1 (h3 i c v hc a2)
      · obtain ⟨c, hc⟩ : ∃ c, bs[i]? = some c := ⟨bs[i]'(by have := (List.getElem?_eq_some_iff.1 a1).1; omega), by simp⟩
        exact i2 i c c' hc a1 (h4 i c v hc a2)

/-- What it takes to tell the heap Hm ++ J anew as Hm ++ J'. -/
structure Retell (H0 Hm J : Heap) (ks : List Nat) (J' : Heap) : Prop where
  len : Hm.length = H0.length
  old : ∀ (r : Nat) b, Hm[r]? = some b → H0[r]? = some b ∨ BCl H0.length b
  nodup : ks.Nodup
  size : J'.length = ks.length
  blks : ∀ (i : Nat) k b', ks[i]? = some k → J'[i]? = some b' → J[k]? = none ∨ ∃ b, J[k]? = some b ∧ BCV H0.length J ks b b'

theorem retell_core {H0 Hm J J' : Heap} (hr : Retell H0 Hm J ks J') {X0 X : Ctx} {w0 w : World} (h0 : HRel X0 H0 w0) (ht : X0.top = H0.length) (hs : Stp X0 w0 X w) (hH : HRel X (Hm ++ J) w) :
    HRel (X.retold H0.length ks) (Hm ++ J') w ∧ Stp X0 w0 (X.retold H0.length ks) w := by
  have hX0 : ∀ r, H0.length ≤ r → X0.blk r = none := fun r hr => h0.free hr
  have new : ∀ r bi, H0.length ≤ r → X.blk r = some bi → w0.heap.size ≤ bi.B := by
    intro r bi h1 h2
    rcases hs.fresh r bi h2 with h | ⟨bi0, h, _⟩
    · exact h
    · rw [hX0 r h1] at h; cases h
  -- where a block of the new telling comes from
  have src : ∀ r bi, (X.retold H0.length ks).blk r = some bi → (r < H0.length ∧ X.blk r = some bi) ∨ (∃ i k, r = H0.length + i ∧ ks[i]? = some k ∧ X.blk (H0.length + k) = some bi) := by
    intro r bi hr
    by_cases hlt : r < H0.length
    · rw [retold_lt hlt] at hr; exact .inl ⟨hlt, hr⟩
    · simp only [Ctx.retold, hlt, if_false, Option.bind_eq_some_iff] at hr
      obtain ⟨k, h1, h2⟩ := hr
      exact .inr ⟨r - H0.length, k, by omega, h1, h2⟩
  refine ⟨⟨fun r bi hb => ?_, fun r r' bi bi' h1 h2 e => ?_, fun r bi hb => ?_, fun b hb => hH.old b hb.1, ?_⟩, ⟨hs.size, hs.os, hs.tape, hs.output, hs.frame, fun r bi hb => ?_, fun b hb => ⟨hs.owned b hb, ?_⟩, fun r bi hb => ?_, fun b hb => hs.new b hb.1, hs.top, fun r bi hb => ?_⟩⟩
  · rcases src r bi hb with ⟨hlt, hx⟩ | ⟨i, k, rfl, hk, hx⟩
    · obtain ⟨b, k1, k2⟩ := hH.blk r bi hx
      have hlt' : r < Hm.length := by rw [hr.len]; exact hlt
      rw [List.getElem?_append_left hlt'] at k1
      refine ⟨b, by rw [List.getElem?_append_left hlt']; exact k1, ?_⟩
      have hcl : BCl H0.length b := by
        rcases hr.old r b k1 with h | h
        · rcases hs.later r bi hx with ⟨bi0, hb0⟩ | hl
          · obtain ⟨b', m1, m2⟩ := h0.blk r bi0 hb0
            rw [h] at m1
            cases m1
            exact bcl_of_rel (fun r bi hr => Nat.lt_of_not_le fun hle => by rw [hX0 r hle] at hr; cases hr) m2
          · omega
        · exact h
      cases k2 with
      | rows e1 e2 e3 e4 e5 e6 e7 e8 =>
        cases hcl with
        | rows hc =>
          refine .rows e1 e2 e3 e4 e5 e6 e7 (fun i row j c a b => ?_)
          obtain ⟨v, q1, q2, q3⟩ := e8 i row j c a b
          exact ⟨v, q1, q2, cl_retold (hc i row j c a b) q3⟩
      | map e1 e2 e3 e4 =>
        cases hcl with
        | map hc => exact .map e1 e2 e3 (fun i e m a b => ⟨cl_retold (hc i e a).1 (e4 i e m a b).key, cl_retold (hc i e a).2 (e4 i e m a b).val, (e4 i e m a b).born⟩)
      | lrec e1 e2 e3 =>
        cases hcl with
        | lrec hc => exact .lrec e1 e2 (fun t => cl_retold (hc t) (e3 t))
    · have hi : i < J'.length := by rw [hr.size]; exact (List.getElem?_eq_some_iff.1 hk).1
      obtain ⟨b', hb'⟩ : ∃ b', J'[i]? = some b' := ⟨J'[i], by simp [hi]⟩
      have hJs : ∃ b, J[k]? = some b := by
        obtain ⟨b2, k1, k2⟩ := hH.blk _ _ hx
        rw [List.getElem?_append_right (by rw [hr.len]; omega), hr.len, Nat.add_sub_cancel_left] at k1
        exact ⟨_, k1⟩
      obtain ⟨b, hJ, hcv⟩ := (hr.blks i k b' hk hb').resolve_left (fun e => by rw [e] at hJs; obtain ⟨_, h⟩ := hJs; cases h)
      have hnew : (Hm ++ J')[H0.length + i]? = some b' := by
        rw [List.getElem?_append_right (by rw [hr.len]; omega), hr.len, Nat.add_sub_cancel_left]
        exact hb'
      refine ⟨b', hnew, ?_⟩
      obtain ⟨b2, k1, k2⟩ := hH.blk _ _ hx
      rw [List.getElem?_append_right (by rw [hr.len]; omega), hr.len, Nat.add_sub_cancel_left, hJ] at k1
      cases k1
      cases hcv with
      | rows hl hrow hcell =>
        cases k2 with
        | rows e1 e2 e3 e4 e5 e6 e7 e8 =>
          refine .rows e1 e2 e3 e4 e5 (fun row hr => by rw [hrow row hr]; exact e2) (by rw [hl]; exact e7) (fun i row j c a b => ?_)
          obtain ⟨⟨row0, c0, q1, q2, q3⟩, q4⟩ := hcell i row j c a b
          obtain ⟨v, m1, m2, m3⟩ := e8 i row0 j c0 q1 q2
          exact ⟨v, m1, q4, cv_ok hr.len hH q3 m3⟩
      | map hc =>
        cases k2 with
        | map e1 e2 e3 e4 => exact .map e1 e2 e3 (fun i e m a b => ⟨cl_retold (hc i e a).1 (e4 i e m a b).key, cl_retold (hc i e a).2 (e4 i e m a b).val, (e4 i e m a b).born⟩)
      | lrec hc =>
        cases k2 with
        | lrec e1 e2 e3 => exact .lrec e1 e2 (fun t => cl_retold (hc t) (e3 t))
  · rcases src r bi h1 with ⟨a1, a2⟩ | ⟨i, k, rfl, a1, a2⟩ <;> rcases src r' bi' h2 with ⟨b1, b2⟩ | ⟨i', k', rfl, b1, b2⟩
    · exact hH.inj _ _ _ _ a2 b2 e
    · have := hH.inj _ _ _ _ a2 b2 e; omega
    · have := hH.inj _ _ _ _ a2 b2 e; omega
    · have := hH.inj _ _ _ _ a2 b2 e
      have hkk : k = k' := by omega
      subst hkk
      obtain ⟨l1, e1⟩ := List.getElem?_eq_some_iff.1 a1
      obtain ⟨l2, e2⟩ := List.getElem?_eq_some_iff.1 b1
      have := (List.getElem_inj hr.nodup).1 (e1.trans e2.symm)
      omega
  · rcases src r bi hb with ⟨a1, a2⟩ | ⟨i, k, rfl, a1, a2⟩
    · refine ⟨hH.own _ _ a2, ?_⟩
      rintro ⟨k, bi', b1, b2, b3⟩
      have := hH.inj _ _ _ _ a2 b2 b3.symm
      omega
    · refine ⟨hH.own _ _ a2, ?_⟩
      rintro ⟨k', bi', b1, b2, b3⟩
      have := hH.inj _ _ _ _ a2 b2 b3.symm
      have hkk : k = k' := by omega
      subst hkk
      exact b1 (List.mem_of_getElem? a1)
  · have h1 := hs.top
    have : (X.retold H0.length ks).top = H0.length := by simp only [Ctx.retold]; omega
    rw [this, List.length_append, hr.len]
    omega
  · have hlt : r < H0.length := Nat.lt_of_not_le fun hle => by rw [hX0 r hle] at hb; cases hb
    obtain ⟨bi', h1, h2, h3⟩ := hs.mono r bi hb
    exact ⟨bi', by rw [retold_lt hlt]; exact h1, h2, h3⟩
  · rintro ⟨k, bi, h1, h2, rfl⟩
    have := new _ _ (by omega) h2
    have := h0.old _ hb
    omega
  · rcases src r bi hb with ⟨a1, a2⟩ | ⟨i, k, rfl, a1, a2⟩
    · exact hs.fresh r bi a2
    · exact .inl (new _ _ (by omega) a2)
  · rcases src r bi hb with ⟨a1, a2⟩ | ⟨i, k, rfl, a1, a2⟩
    · exact hs.later r bi a2
    · exact .inr (by omega)

theorem Conv.of {H0 Hm J J' : Heap} {ks : List Nat} (hr : Retell H0 Hm J ks J') {σ σ' : Env} (hσ : ∀ t, CV H0.length J ks (σ.get t) (σ'.get t)) : Conv H0 σ (Hm ++ J) σ' (Hm ++ J') := by
  intro X0 w0 X w tmps h0 ht hs hH hF
  obtain ⟨k1, k2⟩ := retell_core hr h0 ht hs hH
  exact ⟨_, k1, fun t => cv_ok hr.len hH (hσ t) (hF t), k2, fun b hb => retold_owned hb⟩

theorem Fin.of {H0 Hm J J' : Heap} {ks : List Nat} (hr : Retell H0 Hm J ks J') {v1 v : AV} (hv : CV H0.length J ks v1 v) : Fin H0 v1 (Hm ++ J) v (Hm ++ J') := by
  intro X0 w0 X w u h0 ht hs hH hu
  obtain ⟨k1, k2⟩ := retell_core hr h0 ht hs hH
  exact ⟨_, k1, cv_ok hr.len hH hv hu, k2⟩

end

/-- A slice of the call's own, immutable from here on. -/
theorem CV.freeze {n : Nat} {J : Heap} {ks : List Nat} {k g s a m : Nat} {rs : List Row} (hJ : J[k]? = some (.rows g s rs)) (hk : k ∉ ks) (hle : a + m ≤ rs.length) (hs : ∀ row ∈ rs, row.length = s)
    (hcl : ∀ row ∈ rs, ∀ c ∈ row, c.sc = true ∧ Cl n c) : CV n J ks (.slice (n + k) g a m) (.islice ((rs.drop a).take m)) := by
  have hin : ∀ (i : Nat) row, ((rs.drop a).take m)[i]? = some row → rs[a + i]? = some row := by
    intro i row h
    rw [List.getElem?_take] at h
    split at h
    · rw [List.getElem?_drop] at h; exact h
    · cases h
  refine .fz (fun i j => (((rs[a + i]?).getD [])[j]?).getD .undef) hJ hk hle (by simp; omega) (fun row hr => hs row (List.mem_of_mem_drop (List.mem_of_mem_take hr))) (fun i row j c h1 h2 => ?_) (fun i row j c h1 h2 => ?_)
  · have h3 := hin i row h1
    exact ⟨⟨row, h3, by simp [h3, h2]⟩, (hcl row (List.mem_of_getElem? h3) c (List.mem_of_getElem? h2)).1⟩
  · have h3 := hin i row h1
    simp only [h3, Option.getD_some, h2]
    exact .refl (hcl row (List.mem_of_getElem? h3) c (List.mem_of_getElem? h2)).2

theorem Retell.drop {J : Heap} : Retell [] [] J [] [] := ⟨rfl, by simp, by simp, rfl, by simp⟩

theorem env_cv {n : Nat} {J : Heap} {ks : List Nat} {σ : Env} : ∀ {σ' : Env}, (∀ p ∈ σ', CV n J ks (σ.get p.1) p.2) → ∀ t, CV n J ks (σ.get t) (σ'.get t)
  | [], _, t => .undef
  | (s, v) :: σ', h, t => by
    simp only [Env.get]
    by_cases e : s = t
    · subst e; rw [if_pos rfl]; exact h (s, v) (by simp)
    · rw [if_neg e]; exact env_cv (fun p hp => h p (by simp [hp])) t

/-- Everything that this call made is given up; what stays is told anew. -/
theorem conv_drop {J : Heap} {σ σ' : Env} (h : ∀ p ∈ σ', CV 0 J [] (σ.get p.1) p.2) : Conv [] σ J σ' [] := Conv.of (H0 := []) (Hm := []) (J' := []) .drop (env_cv h)
/-- What this call laid behind the heap that it found is given up; blocks of that heap may have plain rows now. -/
theorem conv_tmp {H0 Hm J : Heap} (hl : Hm.length = H0.length) (ho : ∀ (r : Nat) b, Hm[r]? = some b → H0[r]? = some b ∨ BCl H0.length b) {σ σ' : Env} (h : ∀ p ∈ σ', CV H0.length J [] (σ.get p.1) p.2) : Conv H0 σ (Hm ++ J) σ' Hm := by
  have := Conv.of (H0 := H0) (Hm := Hm) (J := J) (J' := []) (ks := []) ⟨hl, ho, by simp, rfl, by simp⟩ (env_cv h)
  rwa [List.append_nil] at this
theorem fin_tmp {H0 Hm J : Heap} (hl : Hm.length = H0.length) (ho : ∀ (r : Nat) b, Hm[r]? = some b → H0[r]? = some b ∨ BCl H0.length b) {v1 v : AV} (h : CV H0.length J [] v1 v) : Fin H0 v1 (Hm ++ J) v Hm := by
  have := Fin.of (H0 := H0) (Hm := Hm) (J := J) (J' := []) (ks := []) ⟨hl, ho, by simp, rfl, by simp⟩ h
  rwa [List.append_nil] at this
theorem set_old {H0 : Heap} {k : Nat} {blk : ABlk} (hb : BCl H0.length blk) : ∀ (r : Nat) b, (H0.set k blk)[r]? = some b → H0[r]? = some b ∨ BCl H0.length b := by
  intro r b h
  by_cases e : k = r
  · subst e
    have hlt : k < H0.length := by have := (List.getElem?_eq_some_iff.1 h).1; simpa using this
    rw [List.getElem?_set_self hlt] at h
    cases h
    exact .inr hb
  · rw [List.getElem?_set_ne e] at h
    exact .inl h

theorem fin_drop {J : Heap} {v1 v : AV} (h : CV 0 J [] v1 v) : Fin [] v1 J v [] := Fin.of (H0 := []) (Hm := []) (J' := []) .drop h

end Go.Ab

/-
  An evaluator of closed calls, and that what it says is a contract; the frame rule.
  Conditions: none.
-/
namespace Go.Ab

/-! ### equality of plain values, as a test -/
mutual
def AV.beq : AV → AV → Bool
  | .undef, .undef => true
  | .int k n, .int k' n' => decide (k = k') && decide (n = n')
  | .bool a, .bool b => a == b
  | .str s, .str t => decide (s = t)
  | .nilp, .nilp => true
  | .ptr r g i j, .ptr r' g' i' j' => decide (r = r') && decide (g = g') && decide (i = i') && decide (j = j')
  | .iptr rows i j, .iptr rows' i' j' => AV.beqLL rows rows' && decide (i = i') && decide (j = j')
  | .nils, .nils => true
  | .slice r g i j, .slice r' g' i' j' => decide (r = r') && decide (g = g') && decide (i = i') && decide (j = j')
  | .islice rows, .islice rows' => AV.beqLL rows rows'
  | .agg a, .agg b => AV.beqL a b
  | .tup a, .tup b => AV.beqL a b
  | .func f a b, .func f' a' b' => decide (f = f') && AV.beqL a a' && AV.beqL b b'
  | .nilf, .nilf => true
  | .nilmap, .nilmap => true
  | .map r, .map r' => decide (r = r')
  | .nilI, .nilI => true
  | _, _ => false
def AV.beqL : List AV → List AV → Bool
  | [], [] => true
  | a :: as, b :: bs => AV.beq a b && AV.beqL as bs
  | _, _ => false
def AV.beqLL : List (List AV) → List (List AV) → Bool
  | [], [] => true
  | a :: as, b :: bs => AV.beqL a b && AV.beqLL as bs
  | _, _ => false
end

mutual
theorem AV.beq_ok : ∀ {a b : AV}, AV.beq a b = true → a = b := by
  intro a b h
  cases a <;> cases b <;> simp only [AV.beq, Bool.and_eq_true, decide_eq_true_eq, beq_iff_eq, Bool.false_eq_true] at h <;> first | rfl | (subst h; rfl) | skip
  case int => obtain ⟨rfl, rfl⟩ := h; rfl
  case ptr => obtain ⟨⟨⟨rfl, rfl⟩, rfl⟩, rfl⟩ := h; rfl
  case slice => obtain ⟨⟨⟨rfl, rfl⟩, rfl⟩, rfl⟩ := h; rfl
  case iptr => obtain ⟨⟨h1, rfl⟩, rfl⟩ := h; rw [AV.beqLL_ok h1]
  case islice => rw [AV.beqLL_ok h]
  case agg => rw [AV.beqL_ok h]
  case tup => rw [AV.beqL_ok h]
  case func => obtain ⟨⟨rfl, h1⟩, h2⟩ := h; rw [AV.beqL_ok h1, AV.beqL_ok h2]
theorem AV.beqL_ok : ∀ {a b : List AV}, AV.beqL a b = true → a = b
  | [], [], _ => rfl
  | a :: as, b :: bs, h => by
    simp only [AV.beqL, Bool.and_eq_true] at h
    rw [AV.beq_ok h.1, AV.beqL_ok h.2]
  | [], _ :: _, h => by simp [AV.beqL] at h
  | _ :: _, [], h => by simp [AV.beqL] at h
theorem AV.beqLL_ok : ∀ {a b : List (List AV)}, AV.beqLL a b = true → a = b
  | [], [], _ => rfl
  | a :: as, b :: bs, h => by
    simp only [AV.beqLL, Bool.and_eq_true] at h
    rw [AV.beqL_ok h.1, AV.beqLL_ok h.2]
  | [], _ :: _, h => by simp [AV.beqLL] at h
  | _ :: _, [], h => by simp [AV.beqLL] at h
end

def entBeq : List (AV × AV × Nat) → List (AV × AV × Nat) → Bool
  | [], [] => true
  | (a, b, n) :: l, (a', b', n') :: l' => AV.beq a a' && AV.beq b b' && decide (n = n') && entBeq l l'
  | _, _ => false

theorem entBeq_ok : ∀ {a b : List (AV × AV × Nat)}, entBeq a b = true → a = b
  | [], [], _ => rfl
  | (x, y, n) :: l, (x', y', n') :: l', h => by
    simp only [entBeq, Bool.and_eq_true, decide_eq_true_eq] at h
    rw [AV.beq_ok h.1.1.1, AV.beq_ok h.1.1.2, h.1.2, entBeq_ok h.2]
  | [], _ :: _, h => by simp [entBeq] at h
  | _ :: _, [], h => by simp [entBeq] at h

def ABlk.beq : ABlk → ABlk → Bool
  | .rows g s rs, .rows g' s' rs' => decide (g = g') && decide (s = s') && AV.beqLL rs rs'
  | .map es c, .map es' c' => entBeq es es' && decide (c = c')
  | .gone, .gone => true
  | _, _ => false

theorem ABlk.beq_ok {a b : ABlk} (h : ABlk.beq a b = true) : a = b := by
  cases a <;> cases b <;> simp only [ABlk.beq, Bool.and_eq_true, decide_eq_true_eq, Bool.false_eq_true] at h
  · obtain ⟨⟨rfl, rfl⟩, h⟩ := h; rw [AV.beqLL_ok h]
  · obtain ⟨h, rfl⟩ := h; rw [entBeq_ok h]
  · rfl

/-- That the second heap is the first with more behind it. -/
def grown : Heap → Heap → Bool
  | [], _ => true
  | a :: as, b :: bs => ABlk.beq a b && grown as bs
  | _ :: _, [] => false

theorem grown_ok : ∀ {H H' : Heap}, grown H H' = true → ∃ N, H' = H ++ N
  | [], H', _ => ⟨H', rfl⟩
  | a :: as, b :: bs, h => by
    simp only [grown, Bool.and_eq_true] at h
    obtain ⟨N, hN⟩ := grown_ok h.2
    exact ⟨N, by rw [ABlk.beq_ok h.1, hN]; rfl⟩
  | _ :: _, [], h => by simp [grown] at h

/-- Operations that leave the heap as it is, or put one block behind it. -/
def mild : MOp → Bool
  | .store .. | .mupd .. | .append .. | .copy .. | .make .. | .call .. | .callv .. => false
  | _ => true

theorem mild_ok {σ : Env} {H H' : Heap} {op : MOp} {v : AV} (hm : mild op = true) (h : stepOp σ H op = some (v, H')) : ∃ N, H' = H ++ N := by
  have same : ∀ {x : Option (AV × Heap)} (c : AV), x = some (c, H) → x = some (v, H') → ∃ N, H' = H ++ N := by
    intro x c h1 h2
    rw [h1] at h2
    cases h2
    exact ⟨[], by simp⟩
  cases op <;> simp only [mild, Bool.false_eq_true] at hm <;> simp only [stepOp] at h
  all_goals (try simp only [Option.bind_eq_some_iff, req] at h)
  all_goals (repeat' (first | split at h | (obtain ⟨_, _, h⟩ := h)))
  all_goals (try cases h)
  all_goals first | exact ⟨[], (List.append_nil _).symm⟩ | exact ⟨_, rfl⟩ | skip
  all_goals simp only [Option.bind_eq_some_iff, Option.some.injEq, Prod.mk.injEq] at h
  all_goals first | (obtain ⟨_, _, _, rfl⟩ := h; first | exact ⟨_, rfl⟩ | exact ⟨[], (List.append_nil _).symm⟩) | (obtain ⟨_, _, _, _, _, rfl⟩ := h; first | exact ⟨_, rfl⟩ | exact ⟨[], (List.append_nil _).symm⟩) | skip

/-! ### the evaluator -/
def evOp (ev : Nat → List AV → Heap → Option (AV × Heap)) (σ : Env) (H : Heap) : MOp → Option (AV × Heap)
  | .call f args => ev f (args.map (·.ev σ)) H
  | .callv x args => match x.ev σ with
    | .func f a b => if f = 0 then none else ev f (a ++ args.map (·.ev σ) ++ b) H
    | _ => none
  | op => stepOp σ H op

def evOps (ev : Nat → List AV → Heap → Option (AV × Heap)) : List MOper → Env → Heap → Option (Env × Heap)
  | [], σ, H => some (σ, H)
  | o :: os, σ, H =>
    match o.guard with
    | none => match evOp ev σ H o.op with
      | some (v, H') => evOps ev os (σ.put o.dst v) H'
      | none => none
    | some (t, pol) => match σ.get t with
      | .bool b => if b = pol then (match evOp ev σ H o.op with
          | some (v, H') => evOps ev os (σ.put o.dst v) H'
          | none => none) else evOps ev os (σ.put o.dst (.tup [])) H
      | .tup [] => evOps ev os (σ.put o.dst (.tup [])) H
      | _ => none

def evU (ev : Nat → List AV → Heap → Option (AV × Heap)) : List MOper → Env → Heap → Option (Env × Heap)
  | [], σ, H => some (σ, H)
  | o :: os, σ, H =>
    match o.guard with
    | none => match evOp ev (σ.keep o.reads) H o.op with
      | some (v, H') => if (mild o.op || grown H H') = true then evU ev os (σ.put o.dst v) H' else none
      | none => none
    | some (t, pol) => match σ.get t with
      | .bool b => if b = pol then (match evOp ev (σ.keep o.reads) H o.op with
          | some (v, H') => if (mild o.op || grown H H') = true then evU ev os (σ.put o.dst v) H' else none
          | none => none) else evU ev os (σ.put o.dst (.tup [])) H
      | .tup [] => evU ev os (σ.put o.dst (.tup [])) H
      | _ => none

def flB (fl : List MOper) (σ : Env) (H : Heap) : Bool := fl.all fun o =>
  match o.dst, o.op with
  | some d, .load agg a => match loadAV H agg (a.ev (σ.keep o.reads)) with
    | some v => AV.beq v (σ.get d)
    | none => false
  | _, _ => false

theorem flB_ok {fl : List MOper} {σ : Env} {H : Heap} (h : flB fl σ H = true) : flOk fl σ H := by
  intro o ho
  simp only [flB, List.all_eq_true] at h
  have := h o ho
  split at this
  · rename_i d agg a h1 h2
    split at this
    · rename_i v hv
      exact ⟨d, agg, a, h1, h2, by rw [hv, AV.beq_ok this]⟩
    · cases this
  · cases this

def evT (ev : Nat → List AV → Heap → Option (AV × Heap))   : List (List MOper) → List MOper → Env → Heap → Option (Env × Heap)
  | fl, [], σ, H => if flB (fl.headD []) σ H = true then some (σ, H) else none
  | fl, o :: os, σ, H => if flB (fl.headD []) σ H = true then (
    match o.guard with
    | none => match evOp ev (σ.keep o.reads) H o.op with
      | some (v, H') => evT ev fl.tail os (σ.put o.dst v) H'
      | none => none
    | some (t, pol) => match σ.get t with
      | .bool b => if b = pol then (match evOp ev (σ.keep o.reads) H o.op with
          | some (v, H') => evT ev fl.tail os (σ.put o.dst v) H'
          | none => none) else evT ev fl.tail os (σ.put o.dst (.tup [])) H
      | .tup [] => evT ev fl.tail os (σ.put o.dst (.tup [])) H
      | _ => none) else none

def evLoop (body : Env → Heap → Option (Ex × Env × Heap)) (keep : List Nat) : Nat → Env → Heap → Option (Ex × Env × Heap)
  | 0, _, _ => none
  | n + 1, σ, H => match body σ H with
    | some (.normal, σ', H') => evLoop body keep n (σ'.keep keep) H'
    | r => r

def evC (ev : Nat → List AV → Heap → Option (AV × Heap)) (fuel : Nat) : MCode → Env → Heap → Option (Ex × Env × Heap)
  | .skip, σ, H => some (.normal, σ, H)
  | .region ops keep, σ, H => match evOps ev ops σ H with
    | some (σ, H) => some (.normal, σ.keep keep, H)
    | none => none
  | .dregion u t fl keep, σ, H => match evU ev u σ H with
    | some (σ, H) => match evT ev fl t σ H with
      | some (σ, H) => some (.normal, σ.keep keep, H)
      | none => none
    | none => none
  | .seq a b, σ, H => match evC ev fuel a σ H with
    | some (.normal, σ, H) => evC ev fuel b σ H
    | r => r
  | .cond c a b, σ, H => match c.ev σ with
    | .bool t => if t = true then evC ev fuel a σ H else evC ev fuel b σ H
    | _ => none
  | .block id a, σ, H => match evC ev fuel a σ H with
    | some (.exit i, σ, H) => if i = id then some (.normal, σ, H) else some (.exit i, σ, H)
    | r => r
  | .loop keep a, σ, H => evLoop (fun σ H => evC ev fuel a σ H) keep fuel (σ.keep keep) H
  | .scope a, σ, H => evC ev fuel a σ H
  | .exit id, σ, H => some (.exit id, σ, H)
  | .ret, σ, H => some (.ret, σ, H)
  | .conv, _, _ => none
  | .rangef _ _ _ _ _ _ _ _, _, _ => none

def evFn (F : Nat → Option MFunc) (fuel : Nat) : Nat → Nat → List AV → Heap → Option (AV × Heap)
  | 0, _, _, _ => none
  | n + 1, f, args, H => match F f with
    | some m => if args.length ≤ m.nparams then (match evC (evFn F fuel n) fuel m.body (envOf args 0) H with
        | some (.exit _, _, _) => none
        | some (_, σ, H1) => match resAV σ H1 m.results with
          | some vs => some (oneOf vs, H1)
          | none => none
        | none => none) else none
    | none => none

section
variable {C : CallR} {ev : Nat → List AV → Heap → Option (AV × Heap)}

theorem evOp_ok (hev : ∀ f args H v H', ev f args H = some (v, H') → C f args H v H') {σ : Env} {H H' : Heap} {op : MOp} {v : AV} (h : evOp ev σ H op = some (v, H')) {K : AV → Heap → Prop} (k : K v H') : wpOp C σ H op K := by
  cases op
  case call f args => exact ⟨v, H', hev _ _ _ _ _ h, k⟩
  case callv x args =>
    simp only [evOp] at h
    simp only [wpOp]
    split at h
    · rename_i heq
      rw [heq]
      split at h
      · cases h
      · rename_i h0
        exact ⟨h0, v, H', hev _ _ _ _ _ h, k⟩
    · cases h
  all_goals exact ⟨(v, H'), h, k⟩

theorem evOps_ok (hev : ∀ f args H v H', ev f args H = some (v, H') → C f args H v H') : ∀ {os : List MOper} {σ : Env} {H : Heap} {σ' : Env} {H' : Heap}, evOps ev os σ H = some (σ', H') → ∀ {K : Env → Heap → Prop}, K σ' H' → wpOps C os σ H K
  | [], σ, H, σ', H', h, K, k => by simp only [evOps, Option.some.injEq, Prod.mk.injEq] at h; obtain ⟨rfl, rfl⟩ := h; exact k
  | o :: os, σ, H, σ', H', h, K, k => by
    unfold evOps at h
    unfold wpOps
    split at h
    · split at h
      · rename_i h1 _ _ _ h2
        rw [h1]
        exact evOp_ok hev h2 (evOps_ok hev h k)
      · cases h
    · split at h
      · rename_i h1 _ b hb
        rw [h1]
        split at h
        · rename_i hbp
          subst hbp
          split at h
          · rename_i h2
            exact .inr ⟨b, hb, fun _ => evOp_ok hev h2 (evOps_ok hev h k), fun e => by cases b <;> cases e⟩
          · cases h
        · rename_i hne
          exact .inr ⟨b, hb, fun e => absurd e hne, fun _ => evOps_ok hev h k⟩
      · rename_i h1 _ hb
        rw [h1]
        exact .inl ⟨hb, evOps_ok hev h k⟩
      · cases h

theorem evT_ok (hev : ∀ f args H v H', ev f args H = some (v, H') → C f args H v H') : ∀ {os : List MOper} {fl : List (List MOper)} {σ : Env} {H : Heap} {σ' : Env} {H' : Heap}, evT ev fl os σ H = some (σ', H') → ∀ {K : Env → Heap → Prop}, K σ' H' → wpT C fl os σ H K
  | [], fl, σ, H, σ', H', h, K, k => by
    simp only [evT] at h
    split at h
    · rename_i hf
      simp only [Option.some.injEq, Prod.mk.injEq] at h
      obtain ⟨rfl, rfl⟩ := h
      exact ⟨flB_ok hf, k⟩
    · cases h
  | o :: os, fl, σ, H, σ', H', h, K, k => by
    unfold evT at h
    unfold wpT
    split at h
    case isFalse => cases h
    rename_i hf
    refine ⟨flB_ok hf, ?_⟩
    split at h
    · split at h
      · rename_i h1 _ _ _ h2
        rw [h1]
        exact evOp_ok hev h2 (evT_ok hev h k)
      · cases h
    · split at h
      · rename_i h1 _ b hb
        rw [h1]
        split at h
        · rename_i hbp
          subst hbp
          split at h
          · rename_i h2
            exact .inr ⟨b, hb, fun _ => evOp_ok hev h2 (evT_ok hev h k), fun e => by cases b <;> cases e⟩
          · cases h
        · rename_i hne
          exact .inr ⟨b, hb, fun e => absurd e hne, fun _ => evT_ok hev h k⟩
      · rename_i h1 _ hb
        rw [h1]
        exact .inl ⟨hb, evT_ok hev h k⟩
      · cases h

theorem evU_ok (hev : ∀ f args H v H', ev f args H = some (v, H') → C f args H v H') : ∀ {os : List MOper} {σ : Env} {H : Heap} {σ' : Env} {H' : Heap}, evU ev os σ H = some (σ', H') → ∀ {K : Env → Heap → Prop}, K σ' H' → wpU C os σ H K
  | [], σ, H, σ', H', h, K, k => by simp only [evU, Option.some.injEq, Prod.mk.injEq] at h; obtain ⟨rfl, rfl⟩ := h; exact k
  | o :: os, σ, H, σ', H', h, K, k => by
    have grow : ∀ {σ1 : Env} {v : AV} {H1 : Heap}, evOp ev σ1 H o.op = some (v, H1) → (mild o.op || grown H H1) = true → ∃ N, H1 = H ++ N := by
      intro σ1 v H1 h1 h2
      rw [Bool.or_eq_true] at h2
      rcases h2 with h2 | h2
      · have : stepOp σ1 H o.op = some (v, H1) := by
          generalize o.op = op at h1 h2
          cases op <;> first | exact h1 | cases h2
        exact mild_ok h2 this
      · exact grown_ok h2
    unfold evU at h
    unfold wpU
    split at h
    · split at h
      · split at h
        · rename_i h1 _ _ _ h2 h3
          rw [h1]
          exact evOp_ok hev h2 ⟨grow h2 h3, evU_ok hev h k⟩
        · cases h
      · cases h
    · split at h
      · rename_i h1 _ b hb
        rw [h1]
        split at h
        · rename_i hbp
          subst hbp
          split at h
          · split at h
            · rename_i h2 h3
              exact .inr ⟨b, hb, fun _ => evOp_ok hev h2 ⟨grow h2 h3, evU_ok hev h k⟩, fun e => by cases b <;> cases e⟩
            · cases h
          · cases h
        · rename_i hne
          exact .inr ⟨b, hb, fun e => absurd e hne, fun _ => evU_ok hev h k⟩
      · rename_i h1 _ hb
        rw [h1]
        exact .inl ⟨hb, evU_ok hev h k⟩
      · cases h

theorem evC_ok (hev : ∀ f args H v H', ev f args H = some (v, H') → C f args H v H') {fuel : Nat} {base : Heap} : ∀ {m : MCode} {σ : Env} {H : Heap} {e : Ex} {σ' : Env} {H' : Heap}, evC ev fuel m σ H = some (e, σ', H') → ∀ {Q : Ex → Env → Heap → Prop}, Q e σ' H' → wpC C base m σ H Q
  | .skip, σ, H, e, σ', H', h, Q, k => by simp only [evC, Option.some.injEq, Prod.mk.injEq] at h; obtain ⟨rfl, rfl, rfl⟩ := h; exact k
  | .exit i, σ, H, e, σ', H', h, Q, k => by simp only [evC, Option.some.injEq, Prod.mk.injEq] at h; obtain ⟨rfl, rfl, rfl⟩ := h; exact k
  | .ret, σ, H, e, σ', H', h, Q, k => by simp only [evC, Option.some.injEq, Prod.mk.injEq] at h; obtain ⟨rfl, rfl, rfl⟩ := h; exact k
  | .conv, σ, H, e, σ', H', h, Q, k => by simp [evC] at h
  | .rangef _ _ _ _ _ _ _ _, σ, H, e, σ', H', h, Q, k => by simp [evC] at h
  | .region ops keep, σ, H, e, σ', H', h, Q, k => by
    simp only [evC] at h
    split at h
    · rename_i h1
      simp only [Option.some.injEq, Prod.mk.injEq] at h
      obtain ⟨rfl, rfl, rfl⟩ := h
      exact evOps_ok hev h1 k
    · cases h
  | .dregion u t fl keep, σ, H, e, σ', H', h, Q, k => by
    simp only [evC] at h
    split at h
    · rename_i h1
      split at h
      · rename_i h2
        simp only [Option.some.injEq, Prod.mk.injEq] at h
        obtain ⟨rfl, rfl, rfl⟩ := h
        exact evU_ok hev h1 (evT_ok hev h2 k)
      · cases h
    · cases h
  | .seq a b, σ, H, e, σ', H', h, Q, k => by
    simp only [evC] at h
    split at h
    · rename_i h1
      exact evC_ok hev (m := a) h1 (evC_ok hev (m := b) h k)
    · rename_i hne
      refine evC_ok hev (m := a) h ?_
      cases e with
      | normal => exact absurd h (hne _ _)
      | exit i => exact k
      | ret => exact k
  | .cond c a b, σ, H, e, σ', H', h, Q, k => by
    simp only [evC] at h
    split at h
    · rename_i t ht
      split at h
      · rename_i h1
        exact ⟨t, ht, fun _ => evC_ok hev (m := a) h k, fun e => by rw [h1] at e; cases e⟩
      · rename_i h1
        exact ⟨t, ht, fun e => absurd e h1, fun _ => evC_ok hev (m := b) h k⟩
    · cases h
  | .block id a, σ, H, e, σ', H', h, Q, k => by
    simp only [evC] at h
    split at h
    · rename_i i _ _ h1
      refine evC_ok hev (m := a) h1 ?_
      simp only
      split at h
      · rename_i hi
        simp only [Option.some.injEq, Prod.mk.injEq] at h
        obtain ⟨rfl, rfl, rfl⟩ := h
        rw [if_pos hi]
        exact k
      · rename_i hi
        simp only [Option.some.injEq, Prod.mk.injEq] at h
        obtain ⟨rfl, rfl, rfl⟩ := h
        rw [if_neg hi]
        exact k
    · rename_i hne
      refine evC_ok hev (m := a) h ?_
      cases e with
      | normal => exact k
      | exit i => exact absurd h (hne _ _ _)
      | ret => exact k
  | .loop keep a, σ, H, e, σ', H', h, Q, k => by
    simp only [evC] at h
    refine ⟨fun n σ H => ∃ e σ' H', evLoop (fun σ H => evC ev fuel a σ H) keep n σ H = some (e, σ', H') ∧ Q e σ' H', ⟨fuel, e, σ', H', h, k⟩, ?_⟩
    rintro n σ H ⟨e, σ', H', h, k⟩
    cases n with
    | zero => simp [evLoop] at h
    | succ n =>
      simp only [evLoop] at h
      split at h
      · rename_i h1
        exact evC_ok hev (m := a) h1 ⟨n, by omega, e, σ', H', h, k⟩
      · rename_i hne
        refine evC_ok hev (m := a) h ?_
        cases e with
        | normal => exact absurd h (hne _ _)
        | exit i => exact k
        | ret => exact k
  | .scope a, σ, H, e, σ', H', h, Q, k => evC_ok hev (m := a) (by simpa only [evC] using h) k

end

theorem evFn_ok {P : Program} (hm : P.follows .mixedOrders = true) {F : Nat → Option MFunc} (hF : ∀ f m, F f = some m → ∃ hs, cmpFn P f hs = some m) {fuel : Nat} :
    ∀ n f args H v H', evFn F fuel n f args H = some (v, H') → Spec P f args H v H' := by
  intro n
  induction n with
  | zero => intro f args H v H' h; cases h
  | succ n ih =>
    intro f args H v H' h
    simp only [evFn] at h
    split at h
    case h_2 => cases h
    rename_i m hfm
    obtain ⟨hs, hc⟩ := hF f m hfm
    split at h
    case isFalse => cases h
    rename_i hl
    refine spec_of_wp (C := Spec P) (fun _ _ _ _ _ h => h) hm hc hl ?_
    split at h
    · cases h
    · rename_i e σ H1 hne heq
      split at h
      · rename_i vs hvs
        simp only [Option.some.injEq, Prod.mk.injEq] at h
        obtain ⟨rfl, rfl⟩ := h
        refine evC_ok (C := Spec P) (ev := evFn F fuel n) ih heq ⟨?_, vs, hvs, Fin.refl _ _ _⟩
        cases e with
        | normal => exact .inl rfl
        | exit i => exact (hne _ rfl).elim
        | ret => exact .inr rfl
      · cases h
    · cases h

/-- The same, some functions worked out otherwise. -/
def evFnO (ov : Nat → Option (List AV → Heap → Option (AV × Heap))) (F : Nat → Option MFunc) (fuel : Nat) : Nat → Nat → List AV → Heap → Option (AV × Heap)
  | 0, _, _, _ => none
  | n + 1, f, args, H => match ov f with
    | some g => g args H
    | none => match F f with
      | some m => if args.length ≤ m.nparams then (match evC (evFnO ov F fuel n) fuel m.body (envOf args 0) H with
          | some (.exit _, _, _) => none
          | some (_, σ, H1) => match resAV σ H1 m.results with
            | some vs => some (oneOf vs, H1)
            | none => none
          | none => none) else none
      | none => none

theorem evFnO_ok {P : Program} (hm : P.follows .mixedOrders = true) {F : Nat → Option MFunc} (hF : ∀ f m, F f = some m → ∃ hs, cmpFn P f hs = some m) {ov : Nat → Option (List AV → Heap → Option (AV × Heap))}
    (hov : ∀ f g, ov f = some g → ∀ args H v H', g args H = some (v, H') → Spec P f args H v H') {fuel : Nat} :
    ∀ n f args H v H', evFnO ov F fuel n f args H = some (v, H') → Spec P f args H v H' := by
  intro n
  induction n with
  | zero => intro f args H v H' h; cases h
  | succ n ih =>
    intro f args H v H' h
    simp only [evFnO] at h
    split at h
    · rename_i g hg
      exact hov f g hg args H v H' h
    split at h
    case h_2 => cases h
    rename_i m hfm
    obtain ⟨hs, hc⟩ := hF f m hfm
    split at h
    case isFalse => cases h
    rename_i hl
    refine spec_of_wp (C := Spec P) (fun _ _ _ _ _ h => h) hm hc hl ?_
    split at h
    · cases h
    · rename_i e σ H1 hne heq
      split at h
      · rename_i vs hvs
        simp only [Option.some.injEq, Prod.mk.injEq] at h
        obtain ⟨rfl, rfl⟩ := h
        refine evC_ok (C := Spec P) (ev := evFnO ov F fuel n) ih heq ⟨?_, vs, hvs, Fin.refl _ _ _⟩
        cases e with
        | normal => exact .inl rfl
        | exit i => exact (hne _ rfl).elim
        | ret => exact .inr rfl
      · cases h
    · cases h

end Go.Ab
