/-
  Regions whose order is open: operations that leave what was there as it was come to the same whatever the order.
  Conditions: none.
-/
import Derived.Test.YthpmmdlhoaonaaaAbWp
namespace Go.Ab

/-- Every reference lies below n. -/
inductive Cl (n : Nat) : AV → Prop
  | undef : Cl n .undef
  | int {k m} : Cl n (.int k m)
  | bool {b} : Cl n (.bool b)
  | str {s} : Cl n (.str s)
  | nilp : Cl n .nilp
  | ptr {r g i j} : r < n → Cl n (.ptr r g i j)
  | iptr {rows : List Row} {i j} : (∀ (i : Nat) row (j : Nat) c, rows[i]? = some row → row[j]? = some c → Cl n c) → Cl n (.iptr rows i j)
  | nils : Cl n .nils
  | slice {r g i m} : r < n → Cl n (.slice r g i m)
  | islice {rows : List Row} : (∀ (i : Nat) row (j : Nat) c, rows[i]? = some row → row[j]? = some c → Cl n c) → Cl n (.islice rows)
  | agg {cs : List AV} : (∀ (i : Nat) c, cs[i]? = some c → Cl n c) → Cl n (.agg cs)
  | tup {cs : List AV} : (∀ (i : Nat) c, cs[i]? = some c → Cl n c) → Cl n (.tup cs)
  | func {f} {as bs : List AV} : (∀ (i : Nat) c, as[i]? = some c → Cl n c) → (∀ (i : Nat) c, bs[i]? = some c → Cl n c) → Cl n (.func f as bs)
  | nilf : Cl n .nilf
  | nilmap : Cl n .nilmap
  | map {r} : r < n → Cl n (.map r)
  | iface {t c} : Cl n c → Cl n (.iface t c)
  | nilI : Cl n .nilI

inductive BCl (n : Nat) : ABlk → Prop
  | rows {g s rs} : (∀ (i : Nat) row (j : Nat) c, rs[i]? = some row → row[j]? = some c → Cl n c) → BCl n (.rows g s rs)
  | map {es clock} : (∀ (i : Nat) e, es[i]? = some e → Cl n e.1 ∧ Cl n e.2.1) → BCl n (.map es clock)

theorem other {l : List AV} {vs : List Value} (h : l.length = vs.length) {i : Nat} {c : AV} (hc : l[i]? = some c) : ∃ v, vs[i]? = some v :=
  ⟨vs[i]'(by rw [← h]; exact (List.getElem?_eq_some_iff.1 hc).1), by simp⟩

theorem cl_of_rel {X : Ctx} {w : World} {n : Nat} (hd : ∀ r bi, X.blk r = some bi → r < n) {c : AV} {v : Value} (h : VRel X w c v) : Cl n c := by
  induction h with
  | undef => exact .undef
  | int => exact .int
  | bool => exact .bool
  | str _ => exact .str
  | nilp => exact .nilp
  | ptr h _ _ => exact .ptr (hd _ _ h)
  | iptr f _ _ _ _ _ ih => exact .iptr ih
  | nils => exact .nils
  | slice h _ _ _ => exact .slice (hd _ _ h)
  | islice0 => exact .islice (by simp)
  | islice f _ _ _ _ _ _ ih => exact .islice ih
  | agg hl _ ih => exact .agg fun i c hc => by obtain ⟨v, hv⟩ := other hl hc; exact ih i c v hc hv
  | tup hl _ ih => exact .tup fun i c hc => by obtain ⟨v, hv⟩ := other hl hc; exact ih i c v hc hv
  | func h1 h2 _ _ i1 i2 => exact .func (fun i c hc => by obtain ⟨v, hv⟩ := other h1 hc; exact i1 i c v hc hv) (fun i c hc => by obtain ⟨v, hv⟩ := other h2 hc; exact i2 i c v hc hv)
  | nilf => exact .nilf
  | nilmap => exact .nilmap
  | map h _ => exact .map (hd _ _ h)
  | iface _ ih => exact .iface ih
  | nilI => exact .nilI

/-- The blocks below n alone. -/
def Ctx.cut (X : Ctx) (n : Nat) : Ctx := { blk := fun r => if r < n then X.blk r else none, owned := X.owned, top := n }

theorem VRel.cut {X : Ctx} {w : World} {n : Nat} {c : AV} {v : Value} (h : VRel X w c v) (hc : Cl n c) : VRel (X.cut n) w c v := by
  induction h with
  | undef => exact .undef
  | int => exact .int
  | bool => exact .bool
  | str h => exact .str h
  | nilp => exact .nilp
  | ptr h1 h2 h3 => cases hc with | ptr hr => exact .ptr (by simp [Ctx.cut, hr, h1]) h2 h3
  | iptr f h1 h2 _ h4 h5 ih => cases hc with | iptr hr => exact .iptr f h1 h2 (fun i row j c a b => ih i row j c a b (hr i row j c a b)) h4 h5
  | nils => exact .nils
  | slice h1 h2 h3 h4 => cases hc with | slice hr => exact .slice (by simp [Ctx.cut, hr, h1]) h2 h3 h4
  | islice0 => exact .islice0
  | islice f h1 h2 h3 h4 _ h6 ih => cases hc with | islice hr => exact .islice f h1 h2 h3 h4 (fun i row j c a b => ih i row j c a b (hr i row j c a b)) h6
  | agg h1 _ ih => cases hc with | agg hr => exact .agg h1 (fun i c v a b => ih i c v a b (hr i c a))
  | tup h1 _ ih => cases hc with | tup hr => exact .tup h1 (fun i c v a b => ih i c v a b (hr i c a))
  | func h1 h2 _ _ i1 i2 => cases hc with | func r1 r2 => exact .func h1 h2 (fun i c v a b => i1 i c v a b (r1 i c a)) (fun i c v a b => i2 i c v a b (r2 i c a))
  | nilf => exact .nilf
  | nilmap => exact .nilmap
  | map h1 h2 => cases hc with | map hr => exact .map (by simp [Ctx.cut, hr, h1]) h2
  | iface _ ih => cases hc with | iface hr => exact .iface (ih hr)
  | nilI => exact .nilI

/-- More blocks. -/
theorem VRel.ext {X X' : Ctx} {w : World} (h : ∀ r bi, X.blk r = some bi → X'.blk r = some bi) (ho : X'.owned = X.owned) {c : AV} {v : Value} (hv : VRel X w c v) : VRel X' w c v := by
  induction hv with
  | undef => exact .undef
  | int => exact .int
  | bool => exact .bool
  | str h => exact .str h
  | nilp => exact .nilp
  | ptr h1 h2 h3 => exact .ptr (h _ _ h1) h2 h3
  | iptr f h1 h2 _ h4 h5 ih => exact .iptr f h1 h2 ih (by rw [ho]; exact h4) h5
  | nils => exact .nils
  | slice h1 h2 h3 h4 => exact .slice (h _ _ h1) h2 h3 h4
  | islice0 => exact .islice0
  | islice f h1 h2 h3 h4 _ h6 ih => exact .islice f h1 h2 h3 h4 ih (by rw [ho]; exact h6)
  | agg h1 _ ih => exact .agg h1 ih
  | tup h1 _ ih => exact .tup h1 ih
  | func h1 h2 _ _ i3 i4 => exact .func h1 h2 i3 i4
  | nilf => exact .nilf
  | nilmap => exact .nilmap
  | map h1 h2 => exact .map (h _ _ h1) h2
  | iface _ ih => exact .iface ih
  | nilI => exact .nilI

theorem BRel.cut {X : Ctx} {w : World} {n : Nat} {bi : BI} {b : ABlk} (h : BRel X w bi b) (hc : BCl n b) : BRel (X.cut n) w bi b := by
  cases h with
  | rows h1 hs h2 h3 h4 h5 h6 h7 =>
    cases hc with
    | rows hr =>
      refine .rows h1 hs h2 h3 h4 h5 h6 (fun i row j c a b => ?_)
      obtain ⟨v, k1, k2, k3⟩ := h7 i row j c a b
      exact ⟨v, k1, k2, k3.cut (hr i row j c a b)⟩
  | map h1 h2 h3 h4 =>
    cases hc with
    | map hr => exact .map h1 h2 h3 (fun i e m a b => ⟨(h4 i e m a b).key.cut (hr i e a).1, (h4 i e m a b).val.cut (hr i e a).2, (h4 i e m a b).born⟩)

theorem BRel.ext {X X' : Ctx} {w : World} (h : ∀ r bi, X.blk r = some bi → X'.blk r = some bi) (ho : X'.owned = X.owned) {bi : BI} {b : ABlk} (hb : BRel X w bi b) : BRel X' w bi b := by
  cases hb with
  | rows h1 hs h2 h3 h4 h5 h6 h7 =>
    refine .rows h1 hs h2 h3 h4 h5 h6 (fun i row j c a b => ?_)
    obtain ⟨v, k1, k2, k3⟩ := h7 i row j c a b
    exact ⟨v, k1, k2, k3.ext h ho⟩
  | map h1 h2 h3 h4 => exact .map h1 h2 h3 (fun i e m a b => ⟨(h4 i e m a b).key.ext h ho, (h4 i e m a b).val.ext h ho, (h4 i e m a b).born⟩)

theorem bcl_of_rel {X : Ctx} {w : World} {n : Nat} (hd : ∀ r bi, X.blk r = some bi → r < n) {bi : BI} {b : ABlk} (h : BRel X w bi b) : BCl n b := by
  cases h with
  | rows h1 hs h2 h3 h4 h5 h6 h7 =>
    refine .rows (fun i row j c a b => ?_)
    obtain ⟨v, k1, k2, k3⟩ := h7 i row j c a b
    exact cl_of_rel hd k3
  | map h1 h2 h3 h4 =>
    rename_i es clock ms
    refine .map (fun i e a => ?_)
    obtain ⟨m, hm⟩ : ∃ m, ms[i]? = some m := ⟨ms[i]'(by rw [← h3]; exact (List.getElem?_eq_some_iff.1 a).1), by simp⟩
    exact ⟨cl_of_rel hd (h4 i e m a hm).key, cl_of_rel hd (h4 i e m a hm).val⟩

theorem Cl.mono {n m : Nat} (h : n ≤ m) {c : AV} (hc : Cl n c) : Cl m c := by
  induction hc with
  | undef => exact .undef
  | int => exact .int
  | bool => exact .bool
  | str => exact .str
  | nilp => exact .nilp
  | ptr hr => exact .ptr (by omega)
  | iptr _ ih => exact .iptr ih
  | nils => exact .nils
  | slice hr => exact .slice (by omega)
  | islice _ ih => exact .islice ih
  | agg _ ih => exact .agg ih
  | tup _ ih => exact .tup ih
  | func _ _ i1 i2 => exact .func i1 i2
  | nilf => exact .nilf
  | nilmap => exact .nilmap
  | map hr => exact .map (by omega)
  | iface _ ih => exact .iface ih
  | nilI => exact .nilI

theorem BCl.mono {n m : Nat} (h : n ≤ m) {b : ABlk} (hc : BCl n b) : BCl m b := by
  cases hc with
  | rows hr => exact .rows fun i row j c a b => (hr i row j c a b).mono h
  | map hr => exact .map fun i e a => ⟨(hr i e a).1.mono h, (hr i e a).2.mono h⟩

/-- What is kept where what nobody owns stays as it is. -/
theorem VRel.stepO {X X' : Ctx} {w w' : World} (hf : ∀ b, b < w.heap.size → ¬X.owned b → w'.heap[b]? = w.heap[b]?) (hsz : w.heap.size ≤ w'.heap.size)
    (hm : ∀ r bi, X.blk r = some bi → ∃ bi', X'.blk r = some bi' ∧ bi.g ≤ bi'.g ∧ (bi'.g = bi.g → bi' = bi)) (hn : ∀ b, X'.owned b → X.owned b ∨ w.heap.size ≤ b) {c : AV} {v : Value} (hv : VRel X w c v) : VRel X' w' c v := by
  have no : ∀ b, ¬X.owned b → b < w.heap.size → ¬X'.owned b := by
    intro b h1 h2 h3
    rcases hn b h3 with h | h
    · exact h1 h
    · omega
  have cell : ∀ (a : Addr) u, ¬X.owned a.block → w.cell? a = some u → w'.cell? a = some u := by
    intro a u h1 h2
    have := hf a.block (World.block_lt_of_cell? w a h2) h1
    simpa [World.cell?, this] using h2
  induction hv with
  | undef => exact .undef
  | int => exact .int
  | bool => exact .bool
  | str h => exact .str h
  | nilp => exact .nilp
  | ptr hr hg ha =>
    obtain ⟨bi', hr', hg', he⟩ := hm _ _ hr
    exact .ptr hr' (Nat.le_trans hg hg') (fun e => by have := he (by omega); subst this; exact ha e)
  | iptr f hl hc _ h4 h5 ih => exact .iptr f hl (fun i row j c h1 h2 => ⟨cell _ _ h4 (hc i row j c h1 h2).1, (hc i row j c h1 h2).2⟩) ih (no _ h4 h5) (by omega)
  | nils => exact .nils
  | slice hr hg h3 ha =>
    obtain ⟨bi', hr', hg', he⟩ := hm _ _ hr
    exact .slice hr' (Nat.le_trans hg hg') h3 (fun e => by have := he (by omega); subst this; exact ha e)
  | islice0 => exact .islice0
  | islice f hr h2 hl hc _ ho ih =>
    refine .islice f hr h2 hl (fun i row j c a1 a2 => ?_) ih (fun h0 => ⟨no _ (ho h0).1 (ho h0).2.2, (ho h0).2.1, by have := (ho h0).2.2; omega⟩)
    have h0 := ho (by have := (List.getElem?_eq_some_iff.1 a1).1; omega)
    exact ⟨cell _ _ h0.1 (hc i row j c a1 a2).1, (hc i row j c a1 a2).2⟩
  | agg h1 _ ih => exact .agg h1 ih
  | tup h1 _ ih => exact .tup h1 ih
  | func h1 h2 _ _ i3 i4 => exact .func h1 h2 i3 i4
  | nilf => exact .nilf
  | nilmap => exact .nilmap
  | map hr hg =>
    obtain ⟨bi', hr', hg', he⟩ := hm _ _ hr
    exact .map hr' (fun e => by have := he (by omega); subst this; exact hg e)
  | iface _ ih => exact .iface ih
  | nilI => exact .nilI

/-! ### the abstract run, step by step -/
def EnvAt (u : List MOper) (cs : Nat → AV) (σ : Env) : Nat → Env
  | 0 => σ
  | i + 1 => (EnvAt u cs σ i).put (u[i]?.bind (·.dst)) (cs i)

def stepTo (C : CallR) (σ : Env) (H : Heap) (o : MOper) (c : AV) (H' : Heap) : Prop :=
  match o.guard with
  | none => wpOp C (σ.keep o.reads) H o.op fun v K => v = c ∧ K = H'
  | some (t, pol) => gdP (σ.get t) pol (wpOp C (σ.keep o.reads) H o.op fun v K => v = c ∧ K = H') (c = .tup [] ∧ H' = H)

theorem wpOp_one {C : CallR} {σ : Env} {H : Heap} {op : MOp} {K : AV → Heap → Prop} (h : wpOp C σ H op K) : ∃ c H', wpOp C σ H op (fun v K' => v = c ∧ K' = H') ∧ K c H' := by
  have plain : W (stepOp σ H op) (fun p => K p.1 p.2) → ∃ c H', W (stepOp σ H op) (fun p => p.1 = c ∧ p.2 = H') ∧ K c H' := by
    rintro ⟨⟨c, H'⟩, h1, h2⟩
    exact ⟨c, H', ⟨_, h1, rfl, rfl⟩, h2⟩
  cases op
  case call f args =>
    obtain ⟨v, H', h1, h2⟩ := h
    exact ⟨v, H', ⟨v, H', h1, rfl, rfl⟩, h2⟩
  case callv x args =>
    simp only [wpOp] at h ⊢
    split at h
    case h_2 => exact h.elim
    obtain ⟨v, H', h1, h2⟩ := h
    exact ⟨v, H', ⟨v, H', h1, rfl, rfl⟩, h2⟩
  all_goals exact plain h

theorem envAt_shift (o : MOper) (os : List MOper) (cs : Nat → AV) (σ : Env) : ∀ i, EnvAt (o :: os) cs σ (i + 1) = EnvAt os (fun j => cs (j + 1)) (σ.put o.dst (cs 0)) i
  | 0 => by simp [EnvAt]
  | i + 1 => by
    rw [EnvAt, envAt_shift o os cs σ i, EnvAt]
    simp

theorem trace_of {C : CallR} : ∀ {u : List MOper} {σ : Env} {H : Heap} {K : Env → Heap → Prop}, wpU C u σ H K →
    ∃ (cs : Nat → AV) (Hs : Nat → Heap), Hs 0 = H ∧ (∀ i o, u[i]? = some o → stepTo C (EnvAt u cs σ i) (Hs i) o (cs i) (Hs (i + 1)) ∧ ∃ N, Hs (i + 1) = Hs i ++ N) ∧ K (EnvAt u cs σ u.length) (Hs u.length)
  | [], σ, H, K, h => ⟨fun _ => .undef, fun _ => H, rfl, by simp, h⟩
  | o :: os, σ, H, K, h => by
    have main : ∀ c H', stepTo C σ H o c H' → (∃ N, H' = H ++ N) → wpU C os (σ.put o.dst c) H' K →
        ∃ (cs : Nat → AV) (Hs : Nat → Heap), Hs 0 = H ∧ (∀ i p, (o :: os)[i]? = some p → stepTo C (EnvAt (o :: os) cs σ i) (Hs i) p (cs i) (Hs (i + 1)) ∧ ∃ N, Hs (i + 1) = Hs i ++ N) ∧ K (EnvAt (o :: os) cs σ (o :: os).length) (Hs (o :: os).length) := by
      intro c H' h1 h2 h3
      obtain ⟨cs, Hs, k1, k2, k3⟩ := trace_of h3
      refine ⟨fun i => match i with | 0 => c | i + 1 => cs i, fun i => match i with | 0 => H | i + 1 => Hs i, rfl, fun i p hp => ?_, ?_⟩
      · cases i with
        | zero =>
          simp at hp
          subst hp
          simp only [EnvAt, k1]
          exact ⟨h1, h2⟩
        | succ i =>
          simp at hp
          rw [envAt_shift]
          exact k2 i p hp
      · simp only [List.length_cons]
        rw [envAt_shift]
        exact k3
    unfold wpU at h
    cases hg : o.guard with
    | none =>
      rw [hg] at h
      obtain ⟨c, H', h1, h2, h3⟩ := wpOp_one h
      exact main c H' (by simp only [stepTo, hg]; exact h1) h2 h3
    | some p =>
      obtain ⟨t, pol⟩ := p
      rw [hg] at h
      rcases h with ⟨hb, h2⟩ | ⟨b, hb, h1, h2⟩
      · refine main (.tup []) H ?_ ⟨[], by simp⟩ h2
        unfold stepTo
        rw [hg]
        exact .inl ⟨hb, rfl, rfl⟩
      by_cases hbp : b = pol
      · obtain ⟨c, H', k1, k2, k3⟩ := wpOp_one (h1 hbp)
        refine main c H' ?_ k2 k3
        simp only [stepTo, hg]
        exact .inr ⟨b, hb, fun _ => k1, fun e => by subst hbp; cases b <;> simp at e⟩
      · refine main (.tup []) H ?_ ⟨[], by simp⟩ (h2 (by cases b <;> cases pol <;> simp_all))
        unfold stepTo
        rw [hg]
        exact .inr ⟨b, hb, fun e => absurd e hbp, fun _ => ⟨rfl, rfl⟩⟩

theorem put_get_ne (σ : Env) (dst : Option Nat) (c : AV) {t : Nat} (h : dst ≠ some t) : (σ.put dst c).get t = σ.get t := by
  cases dst with
  | none => rfl
  | some d =>
    have : d ≠ t := fun e => h (by rw [e])
    simp [Env.put, Env.get, this]

theorem envAt_none {u : List MOper} {cs : Nat → AV} {σ : Env} {t : Nat} : ∀ i, (∀ j, j < i → u[j]?.bind (·.dst) ≠ some t) → (EnvAt u cs σ i).get t = σ.get t
  | 0, _ => rfl
  | i + 1, h => by
    rw [EnvAt, put_get_ne _ _ _ (h i (by omega))]
    exact envAt_none i fun j hj => h j (by omega)

theorem envAt_some {u : List MOper} {cs : Nat → AV} {σ : Env} {t j : Nat} (hj : u[j]?.bind (·.dst) = some t) : ∀ i, j < i → (∀ k, j < k → k < i → u[k]?.bind (·.dst) ≠ some t) → (EnvAt u cs σ i).get t = cs j
  | 0, h, _ => by omega
  | i + 1, h, hn => by
    rw [EnvAt]
    by_cases e : i = j
    · subst e
      rw [hj]
      simp [Env.put, Env.get]
    · rw [put_get_ne _ _ _ (hn i (by omega) (by omega))]
      exact envAt_some hj i (by omega) fun k h1 h2 => hn k h1 (by omega)


/-- What is known when the operations of S are behind us. -/
structure DInv (N nU : Nat) (X0 : Ctx) (w0 : World) (D : Nat → Option Nat) (σ : Env) (cs : Nat → AV) (Hs : Nat → Heap) (S : Nat → Prop) (X : Ctx) (w : World) (a : Act) : Prop where
  blk : ∀ r bi, X.blk r = some bi → ∃ b, (Hs nU)[r]? = some b ∧ BRel X w bi b ∧ ∀ k, k ≤ nU → r < (Hs k).length → BCl (Hs k).length b
  dom : ∀ r bi, X.blk r = some bi → r < (Hs 0).length ∨ ∃ j, S j ∧ j < nU ∧ (Hs j).length ≤ r ∧ r < (Hs (j + 1)).length
  inj : ∀ r r' bi bi', X.blk r = some bi → X.blk r' = some bi' → bi.B = bi'.B → r = r'
  own : ∀ r bi, X.blk r = some bi → X.owned bi.B
  old : ∀ b, X.owned b → b < w.heap.size
  top : X.top ≤ (Hs 0).length
  fr0 : ∀ t, (∀ j, j < nU → S j → D j ≠ some t) → VRel X w (σ.get t) (a.tmps.getD t undef) ∧ Cl (Hs 0).length (σ.get t)
  fr1 : ∀ j t, S j → j < nU → D j = some t → VRel X w (cs j) (a.tmps.getD t undef) ∧ Cl (Hs (j + 1)).length (cs j)
  size : a.tmps.size = N
  defers : a.defers = []
  stp : Stp X0 w0 X w

theorem hs_mono {nU : Nat} {Hs : Nat → Heap} (hp : ∀ i, i < nU → ∃ N, Hs (i + 1) = Hs i ++ N) : ∀ i j, i ≤ j → j ≤ nU → ∃ N, Hs j = Hs i ++ N := by
  intro i j hij hj
  induction j with
  | zero => have : i = 0 := by omega
            subst this; exact ⟨[], by simp⟩
  | succ j ih =>
    by_cases e : i = j + 1
    · subst e; exact ⟨[], by simp⟩
    · obtain ⟨M, hM⟩ := ih (by omega) (by omega)
      obtain ⟨N, hN⟩ := hp j (by omega)
      exact ⟨M ++ N, by rw [hN, hM, List.append_assoc]⟩

theorem hs_len {nU : Nat} {Hs : Nat → Heap} (hp : ∀ i, i < nU → ∃ N, Hs (i + 1) = Hs i ++ N) {i j : Nat} (hij : i ≤ j) (hj : j ≤ nU) : (Hs i).length ≤ (Hs j).length := by
  obtain ⟨N, h⟩ := hs_mono hp i j hij hj
  rw [h]; simp

theorem hs_get {nU : Nat} {Hs : Nat → Heap} (hp : ∀ i, i < nU → ∃ N, Hs (i + 1) = Hs i ++ N) {i j r : Nat} (hij : i ≤ j) (hj : j ≤ nU) (hr : r < (Hs i).length) : (Hs j)[r]? = (Hs i)[r]? := by
  obtain ⟨N, h⟩ := hs_mono hp i j hij hj
  rw [h, List.getElem?_append_left hr]

section
variable {N nU : Nat} {X0 : Ctx} {w0 : World} {D : Nat → Option Nat} {σ : Env} {cs : Nat → AV} {Hs : Nat → Heap} {S : Nat → Prop} {X : Ctx} {w : World} {a : Act}

/-- The state as the operation i sees it. -/
theorem DInv.hrel (h : DInv N nU X0 w0 D σ cs Hs S X w a) (hp : ∀ i, i < nU → ∃ N, Hs (i + 1) = Hs i ++ N) {i : Nat} (hi : i ≤ nU) : HRel (X.cut (Hs i).length) (Hs i) w := by
  have sub : ∀ r bi, (X.cut (Hs i).length).blk r = some bi → r < (Hs i).length ∧ X.blk r = some bi := by
    intro r bi hr
    simp only [Ctx.cut] at hr
    split at hr
    · rename_i h1; exact ⟨h1, hr⟩
    · cases hr
  refine ⟨fun r bi hr => ?_, fun r r' bi bi' hr hr' e => h.inj r r' bi bi' (sub r bi hr).2 (sub r' bi' hr').2 e, fun r bi hr => h.own r bi (sub r bi hr).2, h.old, Nat.le_refl _⟩
  obtain ⟨h1, h2⟩ := sub r bi hr
  obtain ⟨b, k1, k2, k3⟩ := h.blk r bi h2
  exact ⟨b, by rw [← hs_get hp hi (Nat.le_refl _) h1]; exact k1, k2.cut (k3 i hi h1)⟩

/-- Behind an operation that ran. -/
theorem DInv.ran (h : DInv N nU X0 w0 D σ cs Hs S X w a) (hp : ∀ i, i < nU → ∃ N, Hs (i + 1) = Hs i ++ N) {i : Nat} (hi : i < nU) (hS : ¬S i) (hD : ∀ j, j < nU → j ≠ i → ∀ t, D i = some t → D j ≠ some t) (hd : dstOk N (D i) = true)
    {X1 : Ctx} {w1 : World} {v : Value} (hv : VRel X1 w1 (cs i) v) (h1 : HRel X1 (Hs (i + 1)) w1) (hs : Stp (X.cut (Hs i).length) w X1 w1) :
    ∃ X', DInv N nU X0 w0 D σ cs Hs (fun j => S j ∨ j = i) X' w1 (a.put (D i) v) := by
  have hlen : (Hs i).length ≤ (Hs (i + 1)).length := hs_len hp (by omega) (by omega)
  have hlf : (Hs (i + 1)).length ≤ (Hs nU).length := hs_len hp (by omega) (Nat.le_refl _)
  let X' : Ctx := { blk := fun r => if r < (Hs (i + 1)).length then X1.blk r else X.blk r, owned := X1.owned, top := X.top }
  have dom1 : ∀ r bi, X1.blk r = some bi → r < (Hs (i + 1)).length := by
    intro r bi hr
    obtain ⟨b, k, _⟩ := h1.blk r bi hr
    exact (List.getElem?_eq_some_iff.1 k).1
  have cutI : ∀ r bi, r < (Hs i).length → X.blk r = some bi → (X.cut (Hs i).length).blk r = some bi := by
    intro r bi h1 h2; simp [Ctx.cut, h1, h2]
  have ofCut : ∀ r bi, (X.cut (Hs i).length).blk r = some bi → r < (Hs i).length ∧ X.blk r = some bi := by
    intro r bi hr
    simp only [Ctx.cut] at hr
    split at hr
    · rename_i h1; exact ⟨h1, hr⟩
    · cases hr
  -- between the lengths nothing is laid yet
  have gap : ∀ r bi, X.blk r = some bi → (Hs i).length ≤ r → (Hs (i + 1)).length ≤ r := by
    intro r bi hr hle
    rcases h.dom r bi hr with hd | ⟨j, j1, j2, j3, j4⟩
    · have := hs_len hp (i := 0) (j := i) (by omega) (by omega); omega
    · have hji : j ≠ i := fun e => hS (e ▸ j1)
      by_cases hlt : j < i
      · have := hs_len hp (i := j + 1) (j := i) (by omega) (by omega); omega
      · have := hs_len hp (i := i + 1) (j := j) (by omega) (by omega); omega
  have ext1 : ∀ r bi, X1.blk r = some bi → X'.blk r = some bi := by
    intro r bi hr; simp [X', dom1 r bi hr, hr]
  have mono : ∀ r bi, X.blk r = some bi → ∃ bi', X'.blk r = some bi' ∧ bi.g ≤ bi'.g ∧ (bi'.g = bi.g → bi' = bi) := by
    intro r bi hr
    by_cases hlt : r < (Hs i).length
    · obtain ⟨bi', k1, k2, k3⟩ := hs.mono r bi (cutI r bi hlt hr)
      exact ⟨bi', ext1 r bi' k1, k2, k3⟩
    · have := gap r bi hr (by omega)
      exact ⟨bi, by simp [X', show ¬ r < (Hs (i + 1)).length by omega, hr], Nat.le_refl _, fun _ => rfl⟩
  have frameO : ∀ b, b < w.heap.size → ¬X.owned b → w1.heap[b]? = w.heap[b]? := by
    intro b hb hn
    exact hs.frame b hb fun r bi hr e => hn (e ▸ h.own r bi (ofCut r bi hr).2)
  have newO : ∀ b, X'.owned b → X.owned b ∨ w.heap.size ≤ b := fun b hb => hs.new b hb
  have vkeep : ∀ {c : AV} {v : Value}, VRel X w c v → VRel X' w1 c v := fun h => h.stepO frameO hs.size mono newO
  have far : ∀ r bi r2 bi2, X1.blk r = some bi → X.blk r2 = some bi2 → (Hs (i + 1)).length ≤ r2 → bi.B ≠ bi2.B := by
    intro r bi r2 bi2 hr hr2 hle e
    rcases hs.fresh r bi hr with hf | ⟨b0, q1, q2⟩
    · have := h.old _ (h.own r2 bi2 hr2); omega
    · obtain ⟨q3, q4⟩ := ofCut r b0 q1
      have := h.inj r r2 b0 bi2 q4 hr2 (q2.trans e)
      omega
  have old : ∀ r bi, X'.blk r = some bi → (r < (Hs (i + 1)).length ∧ X1.blk r = some bi) ∨ ((Hs (i + 1)).length ≤ r ∧ X.blk r = some bi) := by
    intro r bi hr
    simp only [X'] at hr
    split at hr
    · rename_i q; exact .inl ⟨q, hr⟩
    · rename_i q; exact .inr ⟨by omega, hr⟩
  have hput : ∀ t, (a.put (D i) v).tmps.getD t undef = if D i = some t then v else a.tmps.getD t undef := by
    intro t
    cases hdi : D i with
    | none => simp [Act.put]
    | some d =>
      rw [hdi] at hd
      have hd' : d < N := by simpa [dstOk] using hd
      by_cases e : d = t
      · subst e; simp [Act.put, Array.getD_eq_getD_getElem?, h.size, hd']
      · simp [Act.put, Array.getD_eq_getD_getElem?, Array.getElem?_setIfInBounds_ne e, e]
  refine ⟨X', ?_, ?_, ?_, ?_, h1.old, h.top, ?_, ?_, ?_, ?_, ?_⟩
  · intro r bi hr
    rcases old r bi hr with ⟨q1, q2⟩ | ⟨q1, q2⟩
    · obtain ⟨b, k1, k2⟩ := h1.blk r bi q2
      refine ⟨b, by rw [hs_get hp (i := i + 1) (by omega) (Nat.le_refl _) q1]; exact k1, k2.ext ext1 rfl, fun k hk hrk => ?_⟩
      by_cases hki : k ≤ i
      · have hri : r < (Hs i).length := by have := hs_len hp hki (by omega); omega
        -- the block was there before, and holds the same
        by_cases hX : ∃ b0, X.blk r = some b0
        · obtain ⟨b0, hb0⟩ := hX
          obtain ⟨b', m1, m2, m3⟩ := h.blk r b0 hb0
          rw [hs_get hp (i := i + 1) (by omega) (Nat.le_refl _) q1, k1] at m1
          cases m1
          exact m3 k hk hrk
        · exfalso
          rcases hs.later r bi q2 with ⟨b0, z1⟩ | hf
          · exact hX ⟨b0, (ofCut r b0 z1).2⟩
          · simp only [Ctx.cut] at hf; omega
      · exact (bcl_of_rel dom1 k2).mono (hs_len hp (by omega) hk)
    · obtain ⟨b, k1, k2, k3⟩ := h.blk r bi q2
      refine ⟨b, k1, ?_, k3⟩
      have hheap : w1.heap[bi.B]? = w.heap[bi.B]? := by
        refine hs.frame _ (h.old _ (h.own r bi q2)) fun r2 b2 z e => ?_
        obtain ⟨z1, z2⟩ := ofCut r2 b2 z
        have := h.inj r2 r b2 bi z2 q2 e
        omega
      cases k2 with
      | rows m1 ms m2 m3 m4 m5 m6 m7 =>
        refine .rows m1 ms (hheap.trans m2) m3 m4 m5 m6 (fun i row j c p q => ?_)
        obtain ⟨u, n1, n2, n3⟩ := m7 i row j c p q
        exact ⟨u, by simpa [World.cell?, hheap] using n1, n2, vkeep n3⟩
      | map m1 m2 m3 m4 => exact .map m1 (hheap.trans m2) m3 (fun i x m p q => ⟨vkeep (m4 i x m p q).key, vkeep (m4 i x m p q).val, (m4 i x m p q).born⟩)
  · intro r bi hr
    rcases old r bi hr with ⟨q1, q2⟩ | ⟨q1, q2⟩
    · by_cases hri : r < (Hs i).length
      · rcases hs.later r bi q2 with ⟨b0, z1⟩ | hf
        · rcases h.dom r b0 (ofCut r b0 z1).2 with hd | ⟨j, j1, j2, j3, j4⟩
          · exact .inl hd
          · exact .inr ⟨j, .inl j1, j2, j3, j4⟩
        · simp only [Ctx.cut] at hf; omega
      · exact .inr ⟨i, .inr rfl, hi, by omega, q1⟩
    · rcases h.dom r bi q2 with hd | ⟨j, j1, j2, j3, j4⟩
      · exact .inl hd
      · exact .inr ⟨j, .inl j1, j2, j3, j4⟩
  · intro r r' bi bi' hr hr' e
    rcases old r bi hr with ⟨q1, q2⟩ | ⟨q1, q2⟩ <;> rcases old r' bi' hr' with ⟨p1, p2⟩ | ⟨p1, p2⟩
    · exact h1.inj r r' bi bi' q2 p2 e
    · exact absurd e (far r bi r' bi' q2 p2 p1)
    · exact absurd e.symm (far r' bi' r bi p2 q2 q1)
    · exact h.inj r r' bi bi' q2 p2 e
  · intro r bi hr
    rcases old r bi hr with ⟨q1, q2⟩ | ⟨q1, q2⟩
    · exact h1.own r bi q2
    · exact hs.owned _ (h.own r bi q2)
  · intro t ht
    have hti : D i ≠ some t := ht i hi (.inr rfl)
    obtain ⟨k1, k2⟩ := h.fr0 t fun j hj hSj => ht j hj (.inl hSj)
    rw [hput, if_neg hti]
    exact ⟨vkeep k1, k2⟩
  · intro j t hSj hj hDj
    rcases hSj with hSj | rfl
    · have hji : j ≠ i := fun e => hS (e ▸ hSj)
      obtain ⟨k1, k2⟩ := h.fr1 j t hSj hj hDj
      have hti : D i ≠ some t := fun e => hD j hj hji t e hDj
      rw [hput, if_neg hti]
      exact ⟨vkeep k1, k2⟩
    · rw [hput, if_pos hDj]
      exact ⟨hv.ext ext1 rfl, cl_of_rel dom1 hv⟩
  · cases hdi : D i <;> simp [Act.put, h.size]
  · cases hdi : D i <;> simp [Act.put, h.defers]
  · refine h.stp.trans ⟨hs.size, hs.os, hs.tape, hs.output, fun b hb hn => hs.frame b hb fun r bi hr => hn r bi (ofCut r bi hr).2, mono, hs.owned, fun r bi hr => ?_, newO, rfl, fun r bi hr => ?_⟩
    · rcases old r bi hr with ⟨q1, q2⟩ | ⟨q1, q2⟩
      · rcases hs.fresh r bi q2 with hf | ⟨b0, z1, z2⟩
        · exact .inl hf
        · exact .inr ⟨b0, (ofCut r b0 z1).2, z2⟩
      · exact .inr ⟨bi, q2, rfl⟩
    · rcases old r bi hr with ⟨q1, q2⟩ | ⟨q1, q2⟩
      · rcases hs.later r bi q2 with ⟨b0, z1⟩ | hf
        · exact .inl ⟨b0, (ofCut r b0 z1).2⟩
        · simp only [Ctx.cut] at hf
          have := hs_len hp (i := 0) (j := i) (by omega) (by omega)
          have := h.top
          exact .inr (by omega)
      · exact .inl ⟨bi, q2⟩

end
end Go.Ab
