/-
  Regions whose order is open, whole: every order comes to the same.
  Conditions: none.
-/
import Derived.Test.YthpmmdlhoaonaaaAbDraw
namespace Go.Ab

def befM (acc : List Nat) (o : Oper) : Nat := o.after.toList.foldl (fun s e => if Region.binds .any e then s ||| 2 ^ e.on ||| acc.getD e.on 0 else s) 0

def befL : List Oper → List Nat → List Nat
  | [], acc => acc
  | o :: os, acc => befL os (acc ++ [befM acc o])

/-- Nothing that an operation among the first so many reads is written by another of them, unless that one goes before; each writes a slot of its own; the rest goes in the order of the text, behind all. -/
def slotsOf (m : MOper) : List Nat := m.reads ++ (m.guard.toList.map (·.1))

/-- The operation k may run behind the operation j as well as ahead of it. -/
def floatOk (ms : List MOper) (k j : Nat) : Bool :=
  match ms[k]?, ms[j]? with
  | some mk, some mj => (floats mk.op || isLd mk) && (match mk.dst with | some d => !(slotsOf mj).contains d && decide (mj.dst ≠ some d) | none => true) && (match mj.dst with | some d => !(slotsOf mk).contains d | none => true)
  | _, _ => false

theorem floatOk_ok {ms : List MOper} {k j : Nat} (h : floatOk ms k j = true) {mk mj : MOper} (hk : ms[k]? = some mk) (hj : ms[j]? = some mj) :
    (floats mk.op = true ∨ isLd mk = true) ∧ (∀ t, mk.dst = some t → t ∉ slotsOf mj ∧ mj.dst ≠ some t) ∧ (∀ t, mj.dst = some t → t ∉ slotsOf mk) := by
  simp only [floatOk, hk, hj, Bool.and_eq_true, Bool.or_eq_true] at h
  obtain ⟨⟨h1, h2⟩, h3⟩ := h
  refine ⟨h1, fun t ht => ?_, fun t ht => ?_⟩
  · rw [ht] at h2
    simpa using h2
  · rw [ht] at h3
    simpa using h3

theorem floats_step {op : MOp} (hf : floats op = true) (σ : Env) (H H2 : Heap) : stepOp σ H2 op = (stepOp σ H op).map fun p => (p.1, H2) := by
  cases op <;> simp only [floats, Bool.false_eq_true] at hf <;> simp only [stepOp]
  all_goals (first | rfl | skip)
  all_goals ((repeat' split) <;> simp [Option.map_bind, Function.comp_def, req])
  all_goals (congr 1; funext n; split <;> simp [Option.map_bind, Function.comp_def])

theorem floats_wp {C : CallR} {op : MOp} (hf : floats op = true) {σ : Env} {H H1 H2 : Heap} {c : AV} (h : wpOp C σ H op fun v K => v = c ∧ K = H1) : H1 = H ∧ wpOp C σ H2 op fun v K => v = c ∧ K = H2 := by
  have hw : ∀ {H : Heap} {R : AV → Heap → Prop}, wpOp C σ H op R = W (stepOp σ H op) fun p => R p.1 p.2 := by
    intro H R
    cases op <;> first | rfl | cases hf
  rw [hw] at h ⊢
  obtain ⟨⟨v, K⟩, h1, rfl, rfl⟩ := h
  have h2 := floats_step hf σ H H
  rw [h1] at h2
  simp only [Option.map_some, Option.some.injEq, Prod.mk.injEq, true_and] at h2
  refine ⟨h2, (v, H2), ?_, rfl, rfl⟩
  rw [floats_step hf σ H H2, h1]
  rfl

/-- For each place in the tail: the loads of the first that may still be to come there. -/
def flOf (ops : Array Oper) (ms : List MOper) (nU : Nat) : List (List MOper) :=
  let b := befL ops.toList []
  let l := (List.range (ops.size - nU + 1)).map fun j => (List.range nU).filterMap fun k => (ms[k]?).bind fun m =>
    if isLd m = true ∧ (List.range ops.size).any (fun i => decide (nU ≤ i) && !(b.getD i 0).testBit k) = true ∧ (List.range j).all (fun i => !(b.getD (nU + i) 0).testBit k) = true then some m else none
  if l.all (·.isEmpty) = true then [] else l

theorem mem_flOf {ops : Array Oper} {ms : List MOper} {nU k j i : Nat} {m : MOper} (hk : k < nU) (hm : ms[k]? = some m) (hl : isLd m = true) (hi : nU ≤ i) (hin : i < ops.size) (hb : ((befL ops.toList []).getD i 0).testBit k = false)
    (hj : nU + j ≤ ops.size) (hjb : ∀ i, i < j → ((befL ops.toList []).getD (nU + i) 0).testBit k = false) : m ∈ ((flOf ops ms nU).drop j).headD [] := by
  unfold flOf
  let l := (List.range (ops.size - nU + 1)).map fun j => (List.range nU).filterMap fun k => (ms[k]?).bind fun m =>
    if isLd m = true ∧ (List.range ops.size).any (fun i => decide (nU ≤ i) && !((befL ops.toList []).getD i 0).testBit k) = true ∧ (List.range j).all (fun i => !((befL ops.toList []).getD (nU + i) 0).testBit k) = true then some m else none
  show m ∈ ((if l.all (·.isEmpty) = true then [] else l).drop j).headD []
  have hget : ∃ x, l[j]? = some x ∧ m ∈ x := by
    refine ⟨_, by simp only [l, List.getElem?_map, List.getElem?_range (show j < ops.size - nU + 1 by omega), Option.map_some]; rfl, ?_⟩
    rw [List.mem_filterMap]
    refine ⟨k, List.mem_range.2 hk, ?_⟩
    rw [hm]
    simp only [Option.bind_some]
    rw [if_pos]
    refine ⟨hl, ?_, ?_⟩
    · rw [List.any_eq_true]
      exact ⟨i, List.mem_range.2 hin, by rw [hb]; simpa using hi⟩
    · rw [List.all_eq_true]
      intro q hq
      rw [hjb q (List.mem_range.1 hq)]
      rfl
  obtain ⟨x, h1, h2⟩ := hget
  have hne : ¬ l.all (·.isEmpty) = true := by
    intro h
    rw [List.all_eq_true] at h
    have := h x (List.mem_of_getElem? h1)
    rw [List.isEmpty_iff] at this
    rw [this] at h2
    simp at h2
  rw [if_neg hne]
  have : (l.drop j).headD [] = x := by
    obtain ⟨hlt, he⟩ := List.getElem?_eq_some_iff.1 h1
    rw [List.drop_eq_getElem_cons hlt, he]
    rfl
  rw [this]
  exact h2

def okDraw (ops : Array Oper) (ms : List MOper) (nU : Nat) : Bool :=
  let n := ops.size
  let b := befL ops.toList []
  let D (i : Nat) : Option Nat := (ops[i]?).bind (·.dst)
  decide (nU ≤ n) &&
  (List.range n).all (fun i => ((ops[i]?).map fun o => o.after.toList.all fun e => !Region.binds .any e || decide (e.on < i)).getD true) &&
  (List.range n).all (fun j => decide (j < nU) || (List.range j).all fun k => (b.getD j 0).testBit k || (decide (k < nU) && floatOk ms k j)) &&
  (List.range nU).all (fun i => ((ms[i]?).map fun m => (m.reads ++ (m.guard.toList.map (·.1))).all fun t => (List.range nU).all fun j => decide (D j ≠ some t) || (decide (j < i) && (b.getD i 0).testBit j)).getD true) &&
  (List.range nU).all (fun i => (List.range nU).all fun j => decide (i = j) || decide (D i = none) || decide (D i ≠ D j))

theorem foldl_bits {acc : List Nat} : ∀ (es : List Edge) (s k : Nat), (es.foldl (fun s e => if Region.binds .any e then s ||| 2 ^ e.on ||| acc.getD e.on 0 else s) s).testBit k = true →
    s.testBit k = true ∨ ∃ e ∈ es, Region.binds .any e = true ∧ (k = e.on ∨ (acc.getD e.on 0).testBit k = true)
  | [], s, k, h => .inl h
  | e :: es, s, k, h => by
    rw [List.foldl_cons] at h
    rcases foldl_bits es _ k h with h1 | ⟨e', m, h1, h2⟩
    · split at h1
      · rename_i hb
        rw [Nat.testBit_or, Nat.testBit_or, Bool.or_eq_true, Bool.or_eq_true] at h1
        rcases h1 with (h1 | h1) | h1
        · exact .inl h1
        · rw [Nat.testBit_two_pow] at h1
          exact .inr ⟨e, by simp, hb, .inl (by simpa using (of_decide_eq_true h1).symm)⟩
        · exact .inr ⟨e, by simp, hb, .inr h1⟩
      · exact .inl h1
    · exact .inr ⟨e', by simp [m], h1, h2⟩

/-- A set of operations that holds with each those that go before it. -/
def Closed (ops : Array Oper) (S : Nat → Prop) : Prop := ∀ i o, S i → ops[i]? = some o → ∀ e ∈ o.after.toList, Region.binds .any e = true → S e.on

theorem bef_ok (ops : Array Oper) (S : Nat → Prop) (hS : Closed ops S) : ∀ (l : List Oper) (acc : List Nat), (∀ j, l[j]? = ops[acc.length + j]?) →
    (∀ i o, i < acc.length → ops[i]? = some o → (∀ e ∈ o.after.toList, Region.binds .any e = true → S e.on) → ∀ k, (acc.getD i 0).testBit k = true → S k) →
    ∀ i o, ops[i]? = some o → (∀ e ∈ o.after.toList, Region.binds .any e = true → S e.on) → ∀ k, ((befL l acc).getD i 0).testBit k = true → S k
  | [], acc, hl, hacc, i, o, ho, he, k, hk => by
    by_cases h : i < acc.length
    · exact hacc i o h ho he k hk
    · simp only [befL] at hk
      rw [List.getD_eq_getElem?_getD, List.getElem?_eq_none (by omega)] at hk
      simp at hk
  | p :: l, acc, hl, hacc, i, o, ho, he, k, hk => by
    have hp : ops[acc.length]? = some p := by simpa using (hl 0).symm
    refine bef_ok ops S hS l (acc ++ [befM acc p]) (fun j => ?_) (fun i' o' hi' ho' he' k' hk' => ?_) i o ho he k hk
    · have := hl (j + 1)
      simp only [List.getElem?_cons_succ] at this
      rw [this]
      simp only [List.length_append, List.length_cons, List.length_nil]
      congr 1
      omega
    · simp only [List.length_append, List.length_cons, List.length_nil] at hi'
      by_cases hlt : i' < acc.length
      · rw [List.getD_eq_getElem?_getD, List.getElem?_append_left hlt, ← List.getD_eq_getElem?_getD] at hk'
        exact hacc i' o' hlt ho' he' k' hk'
      · have : i' = acc.length := by omega
        subst this
        rw [hp] at ho'
        cases ho'
        rw [List.getD_eq_getElem?_getD, List.getElem?_append_right (by omega)] at hk'
        simp only [Nat.sub_self, List.getElem?_cons_zero, Option.getD_some, befM] at hk'
        rcases foldl_bits p.after.toList 0 k' hk' with h1 | ⟨e, m, h1, h2 | h2⟩
        · simp at h1
        · rw [h2]; exact he' e m h1
        · have hSe := he' e m h1
          by_cases hle : e.on < acc.length
          · obtain ⟨q, hq⟩ : ∃ q, ops[e.on]? = some q := by
              have hlt : e.on < ops.size := by
                have := (Array.getElem?_eq_some_iff.1 hp).1; omega
              exact ⟨ops[e.on], by simp [hlt]⟩
            exact hacc e.on q hle hq (fun e' m' b' => hS e.on q hSe hq e' m' b') k' h2
          · rw [List.getD_eq_getElem?_getD, List.getElem?_eq_none (by omega)] at h2
            simp at h2

theorem cmpOpers_get {P : Program} {N : Nat} {ops : Array Oper} : ∀ {l : List Oper} {ms : List MOper}, cmpOpers P N ops l = some ms → ms.length = l.length ∧ ∀ (i : Nat) o, l[i]? = some o → ∃ m, ms[i]? = some m ∧ cmpOper P N ops o = some m
  | [], ms, h => by simp only [cmpOpers, Option.some.injEq] at h; subst h; simp
  | o :: l, ms, h => by
    simp only [cmpOpers, Option.bind_eq_some_iff, Option.some.injEq] at h
    obtain ⟨m, h1, ms', h2, rfl⟩ := h
    obtain ⟨k1, k2⟩ := cmpOpers_get h2
    refine ⟨by simp [k1], fun i p hp => ?_⟩
    cases i with
    | zero => simp at hp; subst hp; exact ⟨m, by simp, h1⟩
    | succ i => simp at hp; obtain ⟨m', a, b⟩ := k2 i p hp; exact ⟨m', by simpa using a, b⟩

/-- The unlisted. -/
def unl (n : Nat) (listed : Array Bool) : List Nat := (List.range n).filter fun j => !listed.getD j true

theorem unl_set {n : Nat} {listed : Array Bool} {i : Nat} (hs : listed.size = n) (hi : i < n) (hl : listed.getD i true = false) : (unl n (listed.setIfInBounds i true)).length + 1 = (unl n listed).length := by
  have e : unl n (listed.setIfInBounds i true) = (unl n listed).erase i := by
    have hnd : (unl n listed).Nodup := List.Pairwise.filter _ List.nodup_range
    rw [List.Nodup.erase_eq_filter hnd]
    unfold unl
    rw [List.filter_filter]
    apply List.filter_congr
    intro j hj
    have hjn := List.mem_range.1 hj
    by_cases e : i = j
    · subst e
      simp [Array.getD_eq_getD_getElem?, hs, hi]
    · simp [Array.getD_eq_getD_getElem?, Array.getElem?_setIfInBounds_ne e, Ne.symm e]
  have hm : i ∈ unl n listed := by
    unfold unl
    rw [List.mem_filter]
    exact ⟨List.mem_range.2 hi, by rw [hl]; rfl⟩
  rw [e, List.length_erase_of_mem hm]
  have := List.length_pos_of_mem hm
  omega


section
variable {P : Program} {C : CallR} {N : Nat}

set_option maxHeartbeats 2000000 in
theorem draw_sound (hC : ∀ f args H v H', C f args H v H' → Spec P f args H v H') {ops : Array Oper} {ms : List MOper} (hms : cmpOpers P N ops ops.toList = some ms) {nU : Nat} (hok : okDraw ops ms nU = true) {X0 X : Ctx} {w0 w : World} {a : Act} {σ : Env} {H : Heap}
    (hs : Stp X0 w0 X w) (hH : HRel X H w) (hA : ARel N X w σ a) {K : Env → Heap → Prop} (hK : wpU C (ms.take nU) σ H fun σ H => wpT C (flOf ops ms nU) (ms.drop nU) σ H K) {Q : Exit → Act → World → Prop}
    (hQ : ∀ σ H X w a, K σ H → Stp X0 w0 X w → HRel X H w → ARel N X w σ a → Q .normal a w) : wpAny P .any ops Q ops.size (Array.replicate ops.size false) a w := by
  simp only [okDraw, Bool.and_eq_true, List.all_eq_true, List.mem_range, decide_eq_true_eq, Bool.or_eq_true] at hok
  obtain ⟨⟨⟨⟨hnU, hback⟩, htail⟩, hreads⟩, hdist⟩ := hok
  obtain ⟨hml, hmg⟩ := cmpOpers_get hms
  simp only [Array.length_toList] at hml
  have hmg' : ∀ i o, ops[i]? = some o → ∃ m, ms[i]? = some m ∧ cmpOper P N ops o = some m := fun i o h => hmg i o (by simpa using h)
  let D : Nat → Option Nat := fun i => (ops[i]?).bind (·.dst)
  obtain ⟨cs, Hs, hH0, htr, hKU⟩ := trace_of hK
  have hul : (ms.take nU).length = nU := by simp; omega
  rw [hul] at hKU
  have hp : ∀ i, i < nU → ∃ N, Hs (i + 1) = Hs i ++ N := by
    intro i hi
    obtain ⟨m, hm⟩ : ∃ m, (ms.take nU)[i]? = some m := ⟨ms[i]'(by omega), by rw [List.getElem?_take, if_pos hi, List.getElem?_eq_getElem (by omega)]⟩
    exact (htr i m hm).2
  have hget : ∀ i, i < ops.size → ∃ o, ops[i]? = some o := fun i hi => ⟨ops[i], by simp [hi]⟩
  have hDu : ∀ i, i < nU → (ms.take nU)[i]?.bind (·.dst) = D i := by
    intro i hi
    obtain ⟨o, ho⟩ := hget i (by omega)
    obtain ⟨m, h1, h2⟩ := hmg' i o ho
    rw [List.getElem?_take, if_pos hi, h1]
    simp only [Option.bind_some, D, ho]
    exact (cmpOper_guard h2).1
  have hDge : ∀ i, nU ≤ i → (ms.take nU)[i]?.bind (·.dst) = none := by
    intro i hi
    rw [List.getElem?_eq_none (by omega)]; rfl
  have hdst : ∀ i j, i < nU → j < nU → i ≠ j → ∀ t, D i = some t → D j ≠ some t := by
    intro i j hi hj hne t h1 h2
    rcases hdist i hi j hj with (h | h) | h
    · exact hne h
    · rw [show (ops[i]?).bind (·.dst) = D i from rfl, h1] at h; cases h
    · exact h (by rw [show (ops[i]?).bind (·.dst) = D i from rfl, show (ops[j]?).bind (·.dst) = D j from rfl, h1, h2])
  -- the set of the listed
  let S : Array Bool → Nat → Prop := fun listed j => listed.getD j false = true
  have bef : ∀ listed, Closed ops (S listed) → ∀ i o, ops[i]? = some o → (∀ e ∈ o.after.toList, Region.binds .any e = true → S listed e.on) → ∀ k, ((befL ops.toList []).getD i 0).testBit k = true → S listed k := fun listed hcl =>
    bef_ok ops (S listed) hcl ops.toList [] (by simp) (by simp)
  let Ph2 : Array Bool → Ctx → World → Act → Prop := fun listed X w a => ∃ j σ' H', nU ≤ j ∧ j ≤ ops.size ∧ (∀ i, nU ≤ i → (S listed i ↔ i < j)) ∧ Stp X0 w0 X w ∧ HRel X H' w ∧
    (a.tmps.size = N ∧ a.defers = [] ∧ ∀ t, (∀ k, k < nU → ¬S listed k → D k ≠ some t) → VRel X w (σ'.get t) (a.tmps.getD t undef)) ∧
    (∀ k m, k < nU → ¬S listed k → ms[k]? = some m → (floats m.op = true ∨ (isLd m = true ∧ (∃ i0, nU ≤ i0 ∧ i0 < ops.size ∧ ((befL ops.toList []).getD i0 0).testBit k = false))) ∧ (∀ t ∈ slotsOf m, (EnvAt (ms.take nU) cs σ k).get t = σ'.get t) ∧ ∀ t, D k = some t → σ'.get t = cs k) ∧ wpT C ((flOf ops ms nU).drop (j - nU)) (ms.drop j) σ' H' K
  -- who writes what an operation of the first reads
  have hreads' : ∀ i m t, i < nU → ms[i]? = some m → t ∈ slotsOf m → ∀ j, j < nU → D j = some t → j < i ∧ ((befL ops.toList []).getD i 0).testBit j = true := by
    intro i m t hi hm ht j hj hDj
    have hr := hreads i hi
    rw [hm] at hr
    simp only [Option.map_some, Option.getD_some, List.all_eq_true, List.mem_range, Bool.or_eq_true, Bool.and_eq_true, decide_eq_true_eq] at hr
    rcases hr t ht j hj with h | h
    · exact absurd hDj h
    · exact h
  have envU : ∀ i t, i ≤ nU → (∀ j, j < nU → D j = some t → j < i) → (EnvAt (ms.take nU) cs σ i).get t = (EnvAt (ms.take nU) cs σ nU).get t := by
    intro i t hi hb
    by_cases hw : ∃ j, j < nU ∧ D j = some t
    · obtain ⟨j, hj, hDj⟩ := hw
      rw [envAt_some (by rw [hDu j hj]; exact hDj) i (hb j hj hDj) (fun k hk1 hk2 => by rw [hDu k (by omega)]; exact hdst j k hj (by omega) (by omega) t hDj),
        envAt_some (by rw [hDu j hj]; exact hDj) nU hj (fun k hk1 hk2 => by rw [hDu k hk2]; exact hdst j k hj hk2 (by omega) t hDj)]
    · have hnone : ∀ j, j < nU → D j ≠ some t := fun j hj e => hw ⟨j, hj, e⟩
      rw [envAt_none i (fun k hk => by rw [hDu k (by omega)]; exact hnone k (by omega)), envAt_none nU (fun k hk => by rw [hDu k hk]; exact hnone k hk)]
  have conv12 : ∀ listed X w a, (∀ j, nU ≤ j → ¬S listed j) → DInv N nU X0 w0 D σ cs Hs (S listed) X w a → (∀ k m, k < nU → ¬S listed k → ms[k]? = some m → floats m.op = true ∨ (isLd m = true ∧ (∃ i0, nU ≤ i0 ∧ i0 < ops.size ∧ ((befL ops.toList []).getD i0 0).testBit k = false))) → Ph2 listed X w a := by
    intro listed X w a hno hinv hfl
    refine ⟨nU, EnvAt (ms.take nU) cs σ nU, Hs nU, Nat.le_refl _, hnU, fun k hk => ⟨fun h => absurd h (hno k hk), fun h => by omega⟩, hinv.stp, ?_, ⟨hinv.size, hinv.defers, fun t ht => ?_⟩, fun k m hk hn hm => ⟨hfl k m hk hn hm, fun t ht => ?_, fun t ht => ?_⟩, by rw [Nat.sub_self, List.drop_zero]; exact hKU⟩
    · refine ⟨fun r bi hr => ?_, hinv.inj, hinv.own, hinv.old, Nat.le_trans hinv.top (hs_len hp (by omega) (Nat.le_refl _))⟩
      obtain ⟨b, k1, k2, _⟩ := hinv.blk r bi hr
      exact ⟨b, k1, k2⟩
    · by_cases hw : ∃ j, j < nU ∧ D j = some t
      · obtain ⟨j, hj, hDj⟩ := hw
        have hSj : S listed j := Classical.byContradiction fun hn => ht j hj hn hDj
        rw [envAt_some (by rw [hDu j hj]; exact hDj) nU hj (fun k hk1 hk2 => by rw [hDu k hk2]; exact hdst j k hj hk2 (by omega) t hDj)]
        exact (hinv.fr1 j t hSj hj hDj).1
      · have hnone : ∀ j, j < nU → D j ≠ some t := fun j hj e => hw ⟨j, hj, e⟩
        rw [envAt_none nU (fun k hk => by rw [hDu k hk]; exact hnone k hk)]
        exact (hinv.fr0 t fun j hj _ => hnone j hj).1
    · exact envU k t (by omega) fun j hj hDj => (hreads' k m t hk hm ht j hj hDj).1
    · exact envAt_some (by rw [hDu k hk]; exact ht) nU hk (fun q hk1 hk2 => by rw [hDu q hk2]; exact hdst k q hk hk2 (by omega) t ht)
  have mk : ∀ fuel listed X w a, listed.size = ops.size → (unl ops.size listed).length = fuel → Closed ops (S listed) →
      (((∀ j, nU ≤ j → ¬S listed j) ∧ DInv N nU X0 w0 D σ cs Hs (S listed) X w a) ∨ Ph2 listed X w a) → wpAny P .any ops Q fuel listed a w := by
    intro fuel
    induction fuel with
    | zero =>
      intro listed X w a hsz hun hcl hst
      have hall : ∀ i, i < ops.size → S listed i := by
        intro i hi
        have : i ∉ unl ops.size listed := by rw [List.eq_nil_of_length_eq_zero hun]; simp
        unfold unl at this
        rw [List.mem_filter] at this
        simp only [List.mem_range, hi, true_and] at this
        simp only [S]
        rw [Array.getD_eq_getD_getElem?, Array.getElem?_eq_getElem (by omega)] at this ⊢
        simpa using this
      refine ⟨?_, ?_⟩
      · unfold Region.ready
        rw [List.filter_eq_nil_iff]
        intro i hi
        have hi' := List.mem_range.1 hi
        have := hall i hi'
        simp only [S] at this
        rw [Array.getD_eq_getD_getElem?, Array.getElem?_eq_getElem (by omega)] at this
        simp only [Option.getD_some] at this
        simp [Array.getD_eq_getD_getElem?, hsz, hi', this]
      · have hP : Ph2 listed X w a := by
          rcases hst with ⟨hno, hinv⟩ | h
          · exact conv12 listed X w a hno hinv fun k m hk hn _ => absurd (hall k (by omega)) hn
          · exact h
        obtain ⟨j, σ', H', h1, h2, h3, h4, h5, ⟨hz, hdf, h6⟩, _, h7⟩ := hP
        have hj : j = ops.size := by
          by_cases h : j < ops.size
          · have := (h3 j h1).1 (hall j h); omega
          · omega
        rw [show ms.drop j = [] from List.drop_eq_nil_of_le (by omega)] at h7
        exact hQ σ' H' X w a h7.2 h4 h5 ⟨fun t => h6 t fun k hk hn => absurd (hall k (by omega)) hn, hz, hdf⟩
    | succ fuel ih =>
      intro listed X w a hsz hun hcl hst
      -- who may go next
      have hready : ∀ i, i ∈ Region.ready .any ops listed ↔ i < ops.size ∧ ¬S listed i ∧ ∃ o, ops[i]? = some o ∧ ∀ e ∈ o.after.toList, Region.binds .any e = true → S listed e.on := by
        intro i
        unfold Region.ready
        rw [List.mem_filter, List.mem_range]
        constructor
        · rintro ⟨hi, h⟩
          simp only [Bool.and_eq_true, Bool.not_eq_true'] at h
          obtain ⟨o, ho⟩ := hget i hi
          refine ⟨hi, ?_, o, ho, fun e he hb => ?_⟩
          · have := h.1
            simp only [S]
            rw [Array.getD_eq_getD_getElem?, Array.getElem?_eq_getElem (by omega)] at this ⊢
            simpa using this
          · have h2 := h.2
            rw [ho] at h2
            simp only [Option.map_some, Option.getD_some, Array.all_eq_true_iff_forall_mem] at h2
            have := h2 e (by simpa using he)
            rw [hb] at this
            simpa [S] using this
        · rintro ⟨hi, hn, o, ho, h⟩
          refine ⟨hi, ?_⟩
          simp only [Bool.and_eq_true, Bool.not_eq_true', ho, Option.map_some, Option.getD_some, Array.all_eq_true_iff_forall_mem]
          refine ⟨?_, fun e he => ?_⟩
          · simp only [S] at hn
            rw [Array.getD_eq_getD_getElem?, Array.getElem?_eq_getElem (by omega)] at hn ⊢
            simpa using hn
          · cases hb : Region.binds .any e
            · simp
            · have := h e (by simpa using he) hb
              simpa [S] using this
      refine ⟨fun hnil => ?_, fun i hi => ?_⟩
      · -- nobody: then all are listed
        exfalso
        have hpos : ∃ i, i ∈ unl ops.size listed := by
          cases h : unl ops.size listed with
          | nil => rw [h] at hun; simp at hun
          | cons x xs => exact ⟨x, by simp⟩
        have hex : ∃ i, i < ops.size ∧ ¬S listed i := by
          obtain ⟨i, hi⟩ := hpos
          unfold unl at hi
          rw [List.mem_filter, List.mem_range] at hi
          refine ⟨i, hi.1, ?_⟩
          have := hi.2
          simp only [S]
          rw [Array.getD_eq_getD_getElem?, Array.getElem?_eq_getElem (by omega)] at this ⊢
          simpa using this
        -- the least of them may go
        have least : ∀ m i, i < ops.size → ¬S listed i → i ≤ m → ∃ k, k ∈ Region.ready .any ops listed := by
          intro m
          induction m with
          | zero =>
            intro i hi hn hm
            obtain ⟨o, ho⟩ := hget i hi
            refine ⟨i, (hready i).2 ⟨hi, hn, o, ho, fun e he hb => ?_⟩⟩
            have := hback i hi
            rw [ho] at this
            simp only [Option.map_some, Option.getD_some, List.all_eq_true, Bool.or_eq_true, Bool.not_eq_true', decide_eq_true_eq] at this
            rcases this e he with h | h
            · rw [hb] at h; cases h
            · omega
          | succ m ihm =>
            intro i hi hn hm
            obtain ⟨o, ho⟩ := hget i hi
            by_cases hall : ∀ e ∈ o.after.toList, Region.binds .any e = true → S listed e.on
            · exact ⟨i, (hready i).2 ⟨hi, hn, o, ho, hall⟩⟩
            · simp only [Classical.not_forall] at hall
              obtain ⟨e, he, hb, hne⟩ := hall
              have := hback i hi
              rw [ho] at this
              simp only [Option.map_some, Option.getD_some, List.all_eq_true, Bool.or_eq_true, Bool.not_eq_true', decide_eq_true_eq] at this
              rcases this e he with h | h
              · rw [hb] at h; cases h
              · exact ihm e.on (by omega) hne (by omega)
        obtain ⟨i, hi, hn⟩ := hex
        obtain ⟨k, hk⟩ := least i i hi hn (Nat.le_refl _)
        rw [hnil] at hk
        simp at hk
      · obtain ⟨hin, hnS, o, ho, hpre⟩ := (hready i).1 hi
        have hbef := bef listed hcl i o ho hpre
        have hlf : listed.getD i true = false := by
          simp only [S] at hnS
          rw [Array.getD_eq_getD_getElem?, Array.getElem?_eq_getElem (by omega)] at hnS ⊢
          simpa using hnS
        have hsz' : (listed.setIfInBounds i true).size = ops.size := by simpa using hsz
        have hun' : (unl ops.size (listed.setIfInBounds i true)).length = fuel := by have := unl_set hsz hin hlf; omega
        have hS' : ∀ j, S (listed.setIfInBounds i true) j ↔ S listed j ∨ j = i := by
          intro j
          simp only [S]
          by_cases e : i = j
          · subst e; simp [Array.getD_eq_getD_getElem?, hsz, hin]
          · simp [Array.getD_eq_getD_getElem?, Array.getElem?_setIfInBounds_ne e, Ne.symm e]
        have hcl' : Closed ops (S (listed.setIfInBounds i true)) := by
          intro j p hj hp e he hb
          rw [hS'] at hj ⊢
          rcases hj with hj | rfl
          · exact .inl (hcl j p hj hp e he hb)
          · rw [ho] at hp; cases hp; exact .inl (hpre e he hb)
        obtain ⟨m, hm1, hm2⟩ := hmg' i o ho
        obtain ⟨gd1, gd2, hgd⟩ := cmpOper_guard hm2
        have hDi : D i = o.dst := by simp [D, ho]
        unfold Go.wpOp
        rw [ho]
        simp only
        -- what is not ahead of an operation of the tail floats
        have hfloat : nU ≤ i → ∀ k mk, k < nU → ¬S listed k → ms[k]? = some mk → (floats mk.op = true ∨ (isLd mk = true ∧ (∃ i0, nU ≤ i0 ∧ i0 < ops.size ∧ ((befL ops.toList []).getD i0 0).testBit k = false))) ∧ (∀ t, mk.dst = some t → t ∉ slotsOf m ∧ m.dst ≠ some t) ∧ (∀ t, m.dst = some t → t ∉ slotsOf mk) := by
          intro hge k mk hk hn hmk
          rcases htail i hin with h | h
          · omega
          · rcases h k (by omega) with h | ⟨_, h⟩
            · exact absurd (hbef k h) hn
            · obtain ⟨q1, q2⟩ := floatOk_ok h hmk hm1
              refine ⟨?_, q2⟩
              rcases q1 with q | q
              · exact .inl q
              · refine .inr ⟨q, i, hge, hin, ?_⟩
                cases hb : ((befL ops.toList []).getD i 0).testBit k
                · rfl
                · exact absurd (hbef k hb) hn
        by_cases hph : (∀ j, nU ≤ j → ¬S listed j) ∧ DInv N nU X0 w0 D σ cs Hs (S listed) X w a ∧ i < nU
        · obtain ⟨hno, hinv, hiU⟩ := hph
          have htri := htr i m (by rw [List.getElem?_take, if_pos hiU]; exact hm1)
          have hread : ∀ t, (t ∈ m.reads ∨ ∃ pol, m.guard = some (t, pol)) → VRel (X.cut (Hs i).length) w ((EnvAt (ms.take nU) cs σ i).get t) (a.tmps.getD t undef) := by
            intro t ht
            have hr := hreads i hiU
            rw [hm1] at hr
            simp only [Option.map_some, Option.getD_some, List.all_eq_true, List.mem_append, List.mem_map, Option.mem_toList, List.mem_range, Bool.or_eq_true, Bool.and_eq_true, decide_eq_true_eq] at hr
            have hr' := hr t (by rcases ht with h | ⟨pol, h⟩
                                 · exact .inl h
                                 · exact .inr ⟨(t, pol), h, rfl⟩)
            by_cases hw : ∃ j, j < nU ∧ D j = some t
            · obtain ⟨j, hj, hDj⟩ := hw
              rcases hr' j hj with h | ⟨h, hb⟩
              · exact absurd hDj h
              · have hSj := hbef j hb
                obtain ⟨k1, k2⟩ := hinv.fr1 j t hSj hj hDj
                rw [envAt_some (by rw [hDu j hj]; exact hDj) i h (fun k hk1 hk2 => by rw [hDu k (by omega)]; exact hdst j k hj (by omega) (by omega) t hDj)]
                exact k1.cut (k2.mono (hs_len hp (by omega) (by omega)))
            · have hnone : ∀ j, j < nU → D j ≠ some t := fun j hj e => hw ⟨j, hj, e⟩
              obtain ⟨k1, k2⟩ := hinv.fr0 t fun j hj _ => hnone j hj
              rw [envAt_none i (fun k hk => by rw [hDu k (by omega)]; exact hnone k (by omega))]
              exact k1.cut (k2.mono (hs_len hp (by omega) (by omega)))
          have hHi := hinv.hrel hp (i := i) (by omega)
          -- what holds behind it
          have behind : ∀ {X1 : Ctx} {w1 : World} {v : Value}, VRel X1 w1 (cs i) v → HRel X1 (Hs (i + 1)) w1 → Stp (X.cut (Hs i).length) w X1 w1 → wpAny P .any ops Q fuel (listed.setIfInBounds i true) (a.put o.dst v) w1 := by
            intro X1 w1 v hv hH1 hs1
            obtain ⟨X', hinv'⟩ := hinv.ran hp hiU hnS (fun j hj hne t h => hdst i j hiU hj (Ne.symm hne) t h) (by rw [hDi]; exact gd2) hv hH1 hs1
            rw [hDi] at hinv'
            have hfun : (fun j => S listed j ∨ j = i) = S (listed.setIfInBounds i true) := by funext j; exact propext (hS' j).symm
            rw [hfun] at hinv'
            refine ih _ X' w1 _ hsz' hun' hcl' ?_
            refine .inl ⟨fun j hj hSj => ?_, hinv'⟩
            rcases (hS' j).1 hSj with h | h
            · exact hno j hj h
            · omega
          have run : wpOp C ((EnvAt (ms.take nU) cs σ i).keep m.reads) (Hs i) m.op (fun v K => v = cs i ∧ K = Hs (i + 1)) → o.wp P a w (wpAny P .any ops Q fuel (listed.setIfInBounds i true)) Q := by
            intro hw
            have hfr : FRel (X.cut (Hs i).length) w ((EnvAt (ms.take nU) cs σ i).keep m.reads) a.tmps := by
              intro t
              rw [get_keep]
              split
              · rename_i ht; exact hread t (.inl ht)
              · exact .undef
            refine oper_sound hC hm2 hHi (σ := []) ⟨fun t => .undef, hinv.size, hinv.defers⟩ hfr hw ?_
            rintro v H' X1 w1 v' ⟨rfl, rfl⟩ k1 k2 k3 _
            exact behind k1 k2 k3
          have htr1 := htri.1
          unfold stepTo at htr1
          rcases hgd with ⟨g1, g2⟩ | ⟨t, j, pol, g1, g2, g3⟩
          · rw [g1] at htr1
            rw [if_pos (by simp [Region.wanted, g2])]
            exact .inl (run htr1)
          · rw [g1] at htr1
            have hbt := hread t (.inr ⟨pol, g1⟩)
            rcases htr1 with ⟨hb, e1, e2⟩ | ⟨b, hb, k1, k2⟩
            · rw [hb] at hbt
              have hy := yielded_none g3 (tup0_of_rel hbt)
              rw [if_neg (by simp [Region.wanted, g2, hy])]
              exact behind (by rw [e1]; exact tup0_rel) (by rw [e2]; exact hHi) (Stp.refl _ _)
            rw [hb] at hbt
            have hy := yielded_ok g3 (bool_of_rel hbt)
            by_cases hbp : b = pol
            · rw [if_pos (by simp [Region.wanted, g2, hy, hbp])]
              exact .inl (run (k1 hbp))
            · rw [if_neg (by simp [Region.wanted, g2, hy, hbp])]
              obtain ⟨e1, e2⟩ := k2 (by cases b <;> cases pol <;> simp_all)
              exact behind (by rw [e1]; exact tup0_rel) (by rw [e2]; exact hHi) (Stp.refl _ _)
        · have hP : Ph2 listed X w a := by
            rcases hst with ⟨hno, hinv⟩ | h
            · have hge : nU ≤ i := Nat.le_of_not_lt fun h => hph ⟨hno, hinv, h⟩
              exact conv12 listed X w a hno hinv fun k mk hk hn hmk => (hfloat hge k mk hk hn hmk).1
            · exact h
          obtain ⟨j, σ', H', h1, h2, h3, h4, h5, ⟨hz, hdf, h6⟩, h8, h7⟩ := hP
          have hput : ∀ (v' : Value) t, (a.put o.dst v').tmps.getD t undef = if o.dst = some t then v' else a.tmps.getD t undef := by
            intro v' t
            cases hdi : o.dst with
            | none => simp [Act.put]
            | some d =>
              rw [hdi] at gd2
              have hd' : d < N := by simpa [dstOk] using gd2
              by_cases e : d = t
              · subst e; simp [Act.put, Array.getD_eq_getD_getElem?, hz, hd']
              · simp [Act.put, Array.getD_eq_getD_getElem?, Array.getElem?_setIfInBounds_ne e, e]
          have hz' : ∀ v' : Value, (a.put o.dst v').tmps.size = N ∧ (a.put o.dst v').defers = [] := by
            intro v'
            cases o.dst <;> simp [Act.put, hz, hdf]
          by_cases hiU : i < nU
          · -- one that floats
            obtain ⟨hf, hE1, hE2⟩ := h8 i m hiU hnS hm1
            have htri := htr i m (by rw [List.getElem?_take, if_pos hiU]; exact hm1)
            have hread : ∀ t ∈ slotsOf m, VRel X w ((EnvAt (ms.take nU) cs σ i).get t) (a.tmps.getD t undef) := by
              intro t ht
              rw [hE1 t ht]
              refine h6 t fun k hk hn hDk => hn (hbef k ?_)
              exact (hreads' i m t hiU hm1 ht k hk hDk).2
            have behind : ∀ {X1 : Ctx} {w1 : World} {v' : Value}, VRel X1 w1 (cs i) v' → HRel X1 H' w1 → Stp X w X1 w1 → wpAny P .any ops Q fuel (listed.setIfInBounds i true) (a.put o.dst v') w1 := by
              intro X1 w1 v' hv hH1 s1
              refine ih _ X1 w1 _ hsz' hun' hcl' (.inr ⟨j, σ', H', h1, h2, fun k hk => ?_, h4.trans s1, hH1, ⟨(hz' v').1, (hz' v').2, fun t ht => ?_⟩, fun k mk hk hn hmk => h8 k mk hk (fun h => hn ((hS' k).2 (.inl h))) hmk, h7⟩)
              · rw [hS', ← h3 k hk]
                constructor
                · rintro (h | h)
                  · exact h
                  · omega
                · exact .inl
              · rw [hput]
                by_cases e : o.dst = some t
                · rw [if_pos e, hE2 t (by rw [hDi]; exact e)]
                  exact hv
                · rw [if_neg e]
                  refine (h6 t fun k hk hn hDk => ?_).step h5 s1
                  by_cases hki : k = i
                  · subst hki; rw [hDi] at hDk; exact e hDk
                  · exact ht k hk (fun h => by rcases (hS' k).1 h with h | h; exact hn h; exact hki h) hDk
            have run : wpOp C ((EnvAt (ms.take nU) cs σ i).keep m.reads) (Hs i) m.op (fun v K => v = cs i ∧ K = Hs (i + 1)) → o.wp P a w (wpAny P .any ops Q fuel (listed.setIfInBounds i true)) Q := by
              intro hw
              have hw' : wpOp C ((EnvAt (ms.take nU) cs σ i).keep m.reads) H' m.op (fun v K => v = cs i ∧ K = H') := by
                rcases hf with hf | ⟨hl, i0, z1, z2, z3⟩
                · exact (floats_wp (H2 := H') hf hw).2
                · have hfo : flOk (((flOf ops ms nU).drop (j - nU)).headD []) σ' H' := by
                    generalize ms.drop j = os at h7
                    cases os with
                    | nil => exact h7.1
                    | cons o2 os => exact h7.1
                  have hmem : m ∈ ((flOf ops ms nU).drop (j - nU)).headD [] := by
                    refine mem_flOf hiU hm1 hl z1 z2 z3 (by omega) fun q hq => ?_
                    cases hb : ((befL ops.toList []).getD (nU + q) 0).testBit i
                    · rfl
                    · exfalso
                      have hSq : S listed (nU + q) := (h3 (nU + q) (by omega)).2 (by omega)
                      obtain ⟨oq, hoq⟩ := hget (nU + q) (by omega)
                      exact hnS (bef listed hcl (nU + q) oq hoq (fun e he hb => hcl (nU + q) oq hSq hoq e he hb) i hb)
                  obtain ⟨d, agg, ad, q1, q2, q3⟩ := hfo m hmem
                  have hke : (EnvAt (ms.take nU) cs σ i).keep m.reads = σ'.keep m.reads := by
                    unfold Env.keep
                    apply List.map_congr_left
                    intro t ht
                    rw [hE1 t (by simp [slotsOf, ht])]
                  rw [hke, q2]
                  have hcs : σ'.get d = cs i := hE2 d (by rw [hDi, ← gd1]; exact q1)
                  exact ⟨(cs i, H'), by simp only [stepOp, q3, Option.bind_some, hcs], rfl, rfl⟩
              have hfr : FRel X w ((EnvAt (ms.take nU) cs σ i).keep m.reads) a.tmps := by
                intro t
                rw [get_keep]
                split
                · rename_i ht; exact hread t (by simp [slotsOf, ht])
                · exact .undef
              refine oper_sound hC hm2 h5 (σ := []) ⟨fun t => .undef, hz, hdf⟩ hfr hw' ?_
              rintro v H1 X1 w1 v' ⟨rfl, rfl⟩ k1 k2 k3 _
              exact behind k1 k2 k3
            have htr1 := htri.1
            unfold stepTo at htr1
            rcases hgd with ⟨g1, g2⟩ | ⟨t, j2, pol, g1, g2, g3⟩
            · rw [g1] at htr1
              rw [if_pos (by simp [Region.wanted, g2])]
              exact .inl (run htr1)
            · rw [g1] at htr1
              have hbt := hread t (by simp [slotsOf, g1])
              rcases htr1 with ⟨hb, e1, e2⟩ | ⟨b, hb, k1, k2⟩
              · rw [hb] at hbt
                have hy := yielded_none g3 (tup0_of_rel hbt)
                rw [if_neg (by simp [Region.wanted, g2, hy])]
                exact behind (by rw [e1]; exact tup0_rel) h5 (Stp.refl _ _)
              rw [hb] at hbt
              have hy := yielded_ok g3 (bool_of_rel hbt)
              by_cases hbp : b = pol
              · rw [if_pos (by simp [Region.wanted, g2, hy, hbp])]
                exact .inl (run (k1 hbp))
              · rw [if_neg (by simp [Region.wanted, g2, hy, hbp])]
                obtain ⟨e1, e2⟩ := k2 (by cases b <;> cases pol <;> simp_all)
                exact behind (by rw [e1]; exact tup0_rel) h5 (Stp.refl _ _)
          · -- in the order of the text
            have hge : nU ≤ i := by omega
            have hij : i = j := by
              have hgei : ¬ i < j := fun h => hnS ((h3 i hge).2 h)
              by_cases hgt : j < i
              · exfalso
                rcases htail i hin with h | h
                · omega
                · rcases h j hgt with h | ⟨h, _⟩
                  · have := (h3 j h1).1 (hbef j h); omega
                  · omega
              · omega
            subst hij
            have hdrop : ms.drop i = m :: ms.drop (i + 1) := by
              rw [List.drop_eq_getElem_cons (by omega)]
              congr 1
              have := List.getElem?_eq_getElem (l := ms) (i := i) (by omega)
              rw [hm1] at this
              exact (Option.some.inj this).symm
            rw [hdrop] at h7
            have hread : ∀ t ∈ slotsOf m, VRel X w (σ'.get t) (a.tmps.getD t undef) := by
              intro t ht
              refine h6 t fun k hk hn hDk => ?_
              obtain ⟨q, hq⟩ := hget k (by omega)
              obtain ⟨mk, hmk, hmk2⟩ := hmg' k q hq
              have : mk.dst = some t := by rw [(cmpOper_guard hmk2).1]; simpa [D, hq] using hDk
              exact ((hfloat hge k mk hk hn hmk).2.1 t this).1 ht
            have next : ∀ {X1 : Ctx} {w1 : World} {H1 : Heap} {v : AV} {v' : Value}, Stp X w X1 w1 → HRel X1 H1 w1 → VRel X1 w1 v v' → wpT C ((flOf ops ms nU).drop (i - nU)).tail (ms.drop (i + 1)) (σ'.put o.dst v) H1 K →
                wpAny P .any ops Q fuel (listed.setIfInBounds i true) (a.put o.dst v') w1 := by
              intro X1 w1 H1 v v' s1 hH1 hv hK1
              refine ih _ X1 w1 _ hsz' hun' hcl' (.inr ⟨i + 1, σ'.put o.dst v, H1, by omega, by omega, fun k hk => ?_, h4.trans s1, hH1, ⟨(hz' v').1, (hz' v').2, fun t ht => ?_⟩, fun k mk hk hn hmk => ?_, by rw [List.tail_drop] at hK1; rw [show i + 1 - nU = i - nU + 1 by omega]; exact hK1⟩)
              · rw [hS', h3 k hk]
                omega
              · rw [hput]
                by_cases e : o.dst = some t
                · rw [if_pos e, e]
                  simp only [Env.put, Env.get, if_true]
                  exact hv
                · rw [if_neg e, put_get_ne _ _ _ e]
                  exact (h6 t fun k hk hn hDk => ht k hk (fun h => by rcases (hS' k).1 h with h | h; exact hn h; omega) hDk).step h5 s1
              · have hn0 : ¬S listed k := fun h => hn ((hS' k).2 (.inl h))
                obtain ⟨f1, f2, f3⟩ := hfloat hge k mk hk hn0 hmk
                obtain ⟨e1, e2, e3⟩ := h8 k mk hk hn0 hmk
                refine ⟨f1, fun t ht => ?_, fun t ht => ?_⟩
                · rw [put_get_ne _ _ _ (fun e => f3 t (by rw [gd1]; exact e) ht)]
                  exact e2 t ht
                · have hmd : mk.dst = some t := by
                    obtain ⟨q, hq⟩ := hget k (by omega)
                    obtain ⟨mk', hmk', hmk2⟩ := hmg' k q hq
                    rw [hmk] at hmk'
                    cases hmk'
                    rw [(cmpOper_guard hmk2).1]
                    simpa [D, hq] using ht
                  rw [put_get_ne _ _ _ (fun e => (f2 t hmd).2 (by rw [gd1]; exact e))]
                  exact e3 t ht
            have run : wpOp C (σ'.keep m.reads) H' m.op (fun v H1 => wpT C ((flOf ops ms nU).drop (i - nU)).tail (ms.drop (i + 1)) (σ'.put m.dst v) H1 K) → o.wp P a w (wpAny P .any ops Q fuel (listed.setIfInBounds i true)) Q := by
              intro hw
              have hfr : FRel X w (σ'.keep m.reads) a.tmps := by
                intro t
                rw [get_keep]
                split
                · rename_i ht; exact hread t (by simp [slotsOf, ht])
                · exact .undef
              refine oper_sound hC hm2 h5 (σ := []) ⟨fun t => .undef, hz, hdf⟩ hfr hw ?_
              intro v H1 X1 w1 v' hv k1 k2 k3 _
              rw [gd1] at hv
              exact next k3 k2 k1 hv
            rcases hgd with ⟨g1, g2⟩ | ⟨t, j2, pol, g1, g2, g3⟩
            · simp only [wpT, g1] at h7
              rw [if_pos (by simp [Region.wanted, g2])]
              exact .inl (run h7.2)
            · simp only [wpT, g1] at h7
              have hbt := hread t (by simp [slotsOf, g1])
              rcases h7.2 with ⟨hb, this⟩ | ⟨b, hb, k1, k2⟩
              · rw [hb] at hbt
                have hy := yielded_none g3 (tup0_of_rel hbt)
                rw [if_neg (by simp [Region.wanted, g2, hy])]
                rw [gd1] at this
                exact next (Stp.refl _ _) h5 tup0_rel this
              rw [hb] at hbt
              have hy := yielded_ok g3 (bool_of_rel hbt)
              by_cases hbp : b = pol
              · rw [if_pos (by simp [Region.wanted, g2, hy, hbp])]
                exact .inl (run (k1 hbp))
              · rw [if_neg (by simp [Region.wanted, g2, hy, hbp])]
                have := k2 (by cases b <;> cases pol <;> simp_all)
                rw [gd1] at this
                exact next (Stp.refl _ _) h5 tup0_rel this
  have hS0 : ∀ j, ¬S (Array.replicate ops.size false) j := by
    intro j
    simp only [S, Array.getD_eq_getD_getElem?, Array.getElem?_replicate]
    split <;> simp
  refine mk ops.size _ X w a (by simp) ?_ (fun i o h => absurd h (hS0 i)) ?_
  · unfold unl
    rw [List.filter_eq_self.2]
    · simp
    · intro j hj
      have := List.mem_range.1 hj
      simp [Array.getD_eq_getD_getElem?, this]
  · have domH : ∀ r bi, X.blk r = some bi → r < H.length := by
      intro r bi hr
      obtain ⟨b, k, _⟩ := hH.blk r bi hr
      exact (List.getElem?_eq_some_iff.1 k).1
    · refine .inl ⟨fun j _ => hS0 j, ⟨fun r bi hr => ?_, fun r bi hr => .inl (by rw [hH0]; exact domH r bi hr), hH.inj, hH.own, hH.old, by rw [hH0]; exact hH.top, fun t _ => ⟨hA.f t, ?_⟩, fun j t h => absurd h (hS0 j), hA.size, hA.defers, hs⟩⟩
      · obtain ⟨b, k1, k2⟩ := hH.blk r bi hr
        have hlt := domH r bi hr
        refine ⟨b, ?_, k2, fun k hk _ => (bcl_of_rel domH k2).mono ?_⟩
        · rw [hs_get hp (i := 0) (by omega) (Nat.le_refl _) (by rw [hH0]; exact hlt), hH0]; exact k1
        · have := hs_len hp (i := 0) (j := k) (by omega) hk
          rw [hH0] at this
          exact this
      · rw [hH0]; exact cl_of_rel domH (hA.f t)

end
end Go.Ab
