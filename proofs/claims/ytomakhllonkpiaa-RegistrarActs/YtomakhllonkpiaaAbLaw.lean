/-
  From a contract of a law's function to the given statement of it.
  Conditions: none.
-/
import Derived.Test.YtomakhllonkpiaaAbEval
import Derived.ProofKit
namespace Go.Ab
open Go.ChangeShapes Go.WideShapes Go.ChangeAt Go.RowKit

/-- Nothing of this call's own. -/
def X0 : Ctx := ⟨fun _ => none, fun _ => False, 0⟩

theorem X0_hrel (w : World) : HRel X0 [] w := ⟨fun _ _ h => (by cases h), fun _ _ _ _ h => (by cases h), fun _ _ h => (by cases h), fun _ h => False.elim h, Nat.le_refl _⟩

section
variable {H : Type} {enc : TypeId × Value → H} {P : Program}

theorem trodAll_len {w : World} {base : Nat} {sp : Nat → Bool} {held : Bool} : ∀ {ts : List TypeId} {vs : List Value} {ds : List (DataW H)} {ps : List MemPlace}, DataW.TrodAll enc P w base sp held ts vs ds ps → ds.length = ts.length ∧ vs.length = ts.length
  | [], vs, ds, ps, h => by
    obtain ⟨rfl, rfl, _⟩ := trodAll_nil h
    exact ⟨rfl, rfl⟩
  | t :: ts, vs, ds, ps, h => by
    obtain ⟨v, vs', d, ds', p, q, rfl, rfl, rfl, _, h2⟩ := trodAll_cons h
    have := trodAll_len h2
    simp [this.1, this.2]

theorem trodAll_later (hl : laidOutB P = true) {W W' : World} (hb : Below W.heap.size W W') : ∀ {ts : List TypeId} {vs : List Value} {ds : List (DataW H)} {ps : List MemPlace}, (∀ t ∈ ts, P.readableRec t = true ∧ t < P.types.size) →
    DataW.TrodAll enc P W 0 (fun _ => true) true ts vs ds ps → (∀ x ∈ ps, x.block < W.heap.size) → DataW.TrodAll enc P W' 0 (fun b => decide (b < W.heap.size)) true ts vs ds ps
  | [], vs, ds, ps, _, h, _ => by
    obtain ⟨rfl, rfl, rfl⟩ := trodAll_nil h
    exact rfl
  | t :: ts, vs, ds, ps, ht, h, hlt => by
    obtain ⟨v, vs', d, ds', p, q, rfl, rfl, rfl, h1, h2⟩ := trodAll_cons h
    exact ⟨p, q, Below.trod hl (ht t (by simp)).1 (ht t (by simp)).2 h1 hb (fun x hx => hlt x (by simp [hx])), trodAll_later hl hb (fun t h => ht t (by simp [h])) h2 (fun x hx => hlt x (by simp [hx])), rfl⟩

theorem kept_of_below {W W' : World} (hb : Below W.heap.size W W') (may : MemPlace → Prop) : W.keptBut W' may := by
  have h := World.keptBut_refl W may
  exact ⟨hb.os, hb.output, fun i hi => by rw [hb.block i hi]; exact h.2.2 i hi⟩

/-- A law whose contract is told of pure arguments. -/
theorem law_lifted {C : Checked} {os : Os} {f : FuncId} {fn : Func} {s : ChangeSpec} {conds : List PathCond} {tb : TypeId}
    (own : ownKnob C.prog.godebug = none) (started : os.Started) (noInit : C.prog.inits.idxOf? f = none) (hfn : C.prog.funcs[f]? = some fn)
    (witness : ∃ (w : World) (tape : Tape) (i : Input), w.os = os ∧ (w.forCall tape i).Shaped C.prog ∧ i.vars = [] ∧ Input.okWide C.prog (w.forCall tape i) .any w.heap.size f i ∧
      s.pre6 enc C.prog fn conds false (w.forCall tape i).memory i.args ∧ ({} : Assume).holds C.prog (lone (Frame.enter C.prog f i.args .normal) [] (w.forCall tape i)))
    (hl : laidOutB C.prog = true) (hvars : s.vars = []) (hres : fn.resultTypes = #[tb]) (hb : C.prog.underlying tb = some .bool)
    (hparams : ∀ t ∈ fn.params.toList, C.prog.readableRec t = true ∧ t < C.prog.types.size)
    (hsfn : ∀ ds : List (DataW H), ds.length = fn.params.toList.length → s.fn H ds = { results := [.lit (.bool true)], args := ds })
    (law : ∀ (W : World) (base : Nat) (args : Array Value) (ds : List (DataW H)) (p : List MemPlace),
      (∀ (j : Nat) t v, fn.params[j]? = some t → args[j]? = some v → Value.okWide C.prog W .any base t v) →
      DataW.TrodAll enc C.prog W 0 (fun _ => true) true fn.params.toList args.toList ds p →
      conds.all (PathCond.test C.prog ⟨fn.params.toList, ds, s.plain.varTypes C.prog, []⟩) = true →
      ∃ avs H', VRels X0 W avs args.toList ∧ Spec C.prog f avs [] (.bool true) H') :
    ReturnsInHanded {} C os f .any (s.pre6 enc C.prog fn conds false) (s.post enc C.prog fn false true false false) := by
  refine returnsInHanded_of_change own started noInit hfn witness ?_
  intro W base args ds gs before hval hW hcnd _
  have hW' := hW
  obtain ⟨p, q, hA, hV, rfl, hfz, hnd⟩ := hW
  rw [hvars] at hV
  obtain ⟨rfl, rfl⟩ := trodVars_none hV
  obtain ⟨avs, H', hv, _, hcalls⟩ := law W base args ds p hval hA hcnd
  have hc := hcalls X0 W args.toList (X0_hrel W) hv
  rw [Array.toArray_toList] at hc
  refine hc.mono fun e W' ⟨v', X', he, hvr, hHr, hst⟩ => ?_
  subst he
  have hv' : v' = .bool true := bool_of_rel hvr
  subst hv'
  refine ⟨_, rfl, ?_⟩
  have hbel : Below W.heap.size W W' := ⟨hst.os, hst.tape, hst.output, hst.size, fun k hk => hst.frame k hk (fun r bi h => by cases h)⟩
  have hlt := hW'.lt
  simp only [List.append_nil] at hW' hlt
  have hlen := (trodAll_len hA).1
  have hs := hsfn ds hlen
  refine ⟨ds, [], p, [], p, [], hW', ?_, ?_, ?_, kept_of_below hbel _, fun h => by cases h⟩
  · simp only [List.append_nil]
    rw [hs, hres]
    exact trodAll_mk1 (shut_bool hb true)
  · simp only [List.append_nil]
    rw [hs]
    exact trodAll_later hl hbel hparams hA hlt
  · simp only [List.append_nil]
    rw [hs, hvars]
    exact rfl

end

/-! ### tables of functions, evaluated -/
def look : List (Nat × MFunc) → Nat → Option MFunc
  | [], _ => none
  | (g, m) :: l, f => if g = f then some m else look l f

inductive Tbl (P : Program) : List (Nat × MFunc) → Prop
  | nil : Tbl P []
  | cons {f m l hs} : cmpFn P f hs = some m → Tbl P l → Tbl P ((f, m) :: l)

theorem Tbl.look {P : Program} {l : List (Nat × MFunc)} (h : Tbl P l) : ∀ f m, look l f = some m → ∃ hs, cmpFn P f hs = some m := by
  induction h with
  | nil => intro f m h; cases h
  | cons h1 _ ih =>
    intro f m h
    simp only [Ab.look] at h
    split at h
    · rename_i e
      subst e
      cases h
      exact ⟨_, h1⟩
    · exact ih f m h

def isTrue : Option (AV × Heap) → Bool
  | some (.bool true, _) => true
  | _ => false

theorem true_of_eval {P : Program} (hm : P.follows .mixedOrders = true) {l : List (Nat × MFunc)} (hl : Tbl P l) {fuel n f : Nat} {args : List AV} (h : isTrue (evFn (look l) fuel n f args []) = true) : ∃ H', Spec P f args [] (.bool true) H' := by
  unfold isTrue at h
  split at h
  · rename_i H' he
    exact ⟨H', evFn_ok hm hl.look n f args [] _ H' he⟩
  · cases h

theorem true_of_evalO {P : Program} (hm : P.follows .mixedOrders = true) {l : List (Nat × MFunc)} (hl : Tbl P l) {ov : Nat → Option (List AV → Heap → Option (AV × Heap))}
    (hov : ∀ f g, ov f = some g → ∀ args H v H', g args H = some (v, H') → Spec P f args H v H') {fuel n f : Nat} {args : List AV} (h : isTrue (evFnO ov (look l) fuel n f args []) = true) : ∃ H', Spec P f args [] (.bool true) H' := by
  unfold isTrue at h
  split at h
  · rename_i H' he
    exact ⟨H', evFnO_ok hm hl.look hov n f args [] _ H' he⟩
  · cases h

end Go.Ab
