/-
  An evaluator of closed calls, and that what it says is a contract; the frame rule.
  Conditions: none.
-/
import Derived.Test.YthpmmdlhoaonaaaAbConv
namespace Go.Ab

/-! ### equality of plain values, as a test -/
mutual
def AV.beq : AV → AV → Bool
  | .undef, .undef => true
  | .int k n, .int k' n' => decide (k = k') && decide (n = n')
  | .bool a, .bool b => a == b
  | .str s, .str t => decide (s = t)
  | .nilp, .nilp => true
  | .ptr r g i j, .ptr r' g' i' j' => decide (r = r') && decide (g = g') && decide (i = i') && decide (j = j')
  | .iptr rows i j, .iptr rows' i' j' => AV.beqLL rows rows' && decide (i = i') && decide (j = j')
  | .nils, .nils => true
  | .slice r g i j, .slice r' g' i' j' => decide (r = r') && decide (g = g') && decide (i = i') && decide (j = j')
  | .islice rows, .islice rows' => AV.beqLL rows rows'
  | .agg a, .agg b => AV.beqL a b
  | .tup a, .tup b => AV.beqL a b
  | .func f a b, .func f' a' b' => decide (f = f') && AV.beqL a a' && AV.beqL b b'
  | .nilf, .nilf => true
  | .nilmap, .nilmap => true
  | .map r, .map r' => decide (r = r')
  | .nilI, .nilI => true
  | _, _ => false
def AV.beqL : List AV → List AV → Bool
  | [], [] => true
  | a :: as, b :: bs => AV.beq a b && AV.beqL as bs
  | _, _ => false
def AV.beqLL : List (List AV) → List (List AV) → Bool
  | [], [] => true
  | a :: as, b :: bs => AV.beqL a b && AV.beqLL as bs
  | _, _ => false
end

mutual
theorem AV.beq_ok : ∀ {a b : AV}, AV.beq a b = true → a = b := by
  intro a b h
  cases a <;> cases b <;> simp only [AV.beq, Bool.and_eq_true, decide_eq_true_eq, beq_iff_eq, Bool.false_eq_true] at h <;> first | rfl | (subst h; rfl) | skip
  case int => obtain ⟨rfl, rfl⟩ := h; rfl
  case ptr => obtain ⟨⟨⟨rfl, rfl⟩, rfl⟩, rfl⟩ := h; rfl
  case slice => obtain ⟨⟨⟨rfl, rfl⟩, rfl⟩, rfl⟩ := h; rfl
  case iptr => obtain ⟨⟨h1, rfl⟩, rfl⟩ := h; rw [AV.beqLL_ok h1]
  case islice => rw [AV.beqLL_ok h]
  case agg => rw [AV.beqL_ok h]
  case tup => rw [AV.beqL_ok h]
  case func => obtain ⟨⟨rfl, h1⟩, h2⟩ := h; rw [AV.beqL_ok h1, AV.beqL_ok h2]
theorem AV.beqL_ok : ∀ {a b : List AV}, AV.beqL a b = true → a = b
  | [], [], _ => rfl
  | a :: as, b :: bs, h => by
    simp only [AV.beqL, Bool.and_eq_true] at h
    rw [AV.beq_ok h.1, AV.beqL_ok h.2]
  | [], _ :: _, h => by simp [AV.beqL] at h
  | _ :: _, [], h => by simp [AV.beqL] at h
theorem AV.beqLL_ok : ∀ {a b : List (List AV)}, AV.beqLL a b = true → a = b
  | [], [], _ => rfl
  | a :: as, b :: bs, h => by
    simp only [AV.beqLL, Bool.and_eq_true] at h
    rw [AV.beqL_ok h.1, AV.beqLL_ok h.2]
  | [], _ :: _, h => by simp [AV.beqLL] at h
  | _ :: _, [], h => by simp [AV.beqLL] at h
end

def entBeq : List (AV × AV × Nat) → List (AV × AV × Nat) → Bool
  | [], [] => true
  | (a, b, n) :: l, (a', b', n') :: l' => AV.beq a a' && AV.beq b b' && decide (n = n') && entBeq l l'
  | _, _ => false

theorem entBeq_ok : ∀ {a b : List (AV × AV × Nat)}, entBeq a b = true → a = b
  | [], [], _ => rfl
  | (x, y, n) :: l, (x', y', n') :: l', h => by
    simp only [entBeq, Bool.and_eq_true, decide_eq_true_eq] at h
    rw [AV.beq_ok h.1.1.1, AV.beq_ok h.1.1.2, h.1.2, entBeq_ok h.2]
  | [], _ :: _, h => by simp [entBeq] at h
  | _ :: _, [], h => by simp [entBeq] at h

def ABlk.beq : ABlk → ABlk → Bool
  | .rows g s rs, .rows g' s' rs' => decide (g = g') && decide (s = s') && AV.beqLL rs rs'
  | .map es c, .map es' c' => entBeq es es' && decide (c = c')
  | .gone, .gone => true
  | _, _ => false

theorem ABlk.beq_ok {a b : ABlk} (h : ABlk.beq a b = true) : a = b := by
  cases a <;> cases b <;> simp only [ABlk.beq, Bool.and_eq_true, decide_eq_true_eq, Bool.false_eq_true] at h
  · obtain ⟨⟨rfl, rfl⟩, h⟩ := h; rw [AV.beqLL_ok h]
  · obtain ⟨h, rfl⟩ := h; rw [entBeq_ok h]
  · rfl

/-- That the second heap is the first with more behind it. -/
def grown : Heap → Heap → Bool
  | [], _ => true
  | a :: as, b :: bs => ABlk.beq a b && grown as bs
  | _ :: _, [] => false

theorem grown_ok : ∀ {H H' : Heap}, grown H H' = true → ∃ N, H' = H ++ N
  | [], H', _ => ⟨H', rfl⟩
  | a :: as, b :: bs, h => by
    simp only [grown, Bool.and_eq_true] at h
    obtain ⟨N, hN⟩ := grown_ok h.2
    exact ⟨N, by rw [ABlk.beq_ok h.1, hN]; rfl⟩
  | _ :: _, [], h => by simp [grown] at h

/-- Operations that leave the heap as it is, or put one block behind it. -/
def mild : MOp → Bool
  | .store .. | .mupd .. | .append .. | .copy .. | .make .. | .call .. | .callv .. => false
  | _ => true

theorem mild_ok {σ : Env} {H H' : Heap} {op : MOp} {v : AV} (hm : mild op = true) (h : stepOp σ H op = some (v, H')) : ∃ N, H' = H ++ N := by
  have same : ∀ {x : Option (AV × Heap)} (c : AV), x = some (c, H) → x = some (v, H') → ∃ N, H' = H ++ N := by
    intro x c h1 h2
    rw [h1] at h2
    cases h2
    exact ⟨[], by simp⟩
  cases op <;> simp only [mild, Bool.false_eq_true] at hm <;> simp only [stepOp] at h
  all_goals (try simp only [Option.bind_eq_some_iff, req] at h)
  all_goals (repeat' (first | split at h | (obtain ⟨_, _, h⟩ := h)))
  all_goals (try cases h)
  all_goals first | exact ⟨[], (List.append_nil _).symm⟩ | exact ⟨_, rfl⟩ | skip
  all_goals simp only [Option.bind_eq_some_iff, Option.some.injEq, Prod.mk.injEq] at h
  all_goals first | (obtain ⟨_, _, _, rfl⟩ := h; first | exact ⟨_, rfl⟩ | exact ⟨[], (List.append_nil _).symm⟩) | (obtain ⟨_, _, _, _, _, rfl⟩ := h; first | exact ⟨_, rfl⟩ | exact ⟨[], (List.append_nil _).symm⟩) | skip

/-! ### the evaluator -/
def evOp (ev : Nat → List AV → Heap → Option (AV × Heap)) (σ : Env) (H : Heap) : MOp → Option (AV × Heap)
  | .call f args => ev f (args.map (·.ev σ)) H
  | .callv x args => match x.ev σ with
    | .func f a b => ev f (a ++ args.map (·.ev σ) ++ b) H
    | _ => none
  | op => stepOp σ H op

def evOps (ev : Nat → List AV → Heap → Option (AV × Heap)) : List MOper → Env → Heap → Option (Env × Heap)
  | [], σ, H => some (σ, H)
  | o :: os, σ, H =>
    match o.guard with
    | none => match evOp ev σ H o.op with
      | some (v, H') => evOps ev os (σ.put o.dst v) H'
      | none => none
    | some (t, pol) => match σ.get t with
      | .bool b => if b = pol then (match evOp ev σ H o.op with
          | some (v, H') => evOps ev os (σ.put o.dst v) H'
          | none => none) else evOps ev os (σ.put o.dst (.tup [])) H
      | .tup [] => evOps ev os (σ.put o.dst (.tup [])) H
      | _ => none

def evU (ev : Nat → List AV → Heap → Option (AV × Heap)) : List MOper → Env → Heap → Option (Env × Heap)
  | [], σ, H => some (σ, H)
  | o :: os, σ, H =>
    match o.guard with
    | none => match evOp ev (σ.keep o.reads) H o.op with
      | some (v, H') => if (mild o.op || grown H H') = true then evU ev os (σ.put o.dst v) H' else none
      | none => none
    | some (t, pol) => match σ.get t with
      | .bool b => if b = pol then (match evOp ev (σ.keep o.reads) H o.op with
          | some (v, H') => if (mild o.op || grown H H') = true then evU ev os (σ.put o.dst v) H' else none
          | none => none) else evU ev os (σ.put o.dst (.tup [])) H
      | .tup [] => evU ev os (σ.put o.dst (.tup [])) H
      | _ => none

def flB (fl : List MOper) (σ : Env) (H : Heap) : Bool := fl.all fun o =>
  match o.dst, o.op with
  | some d, .load agg a => match loadAV H agg (a.ev (σ.keep o.reads)) with
    | some v => AV.beq v (σ.get d)
    | none => false
  | _, _ => false

theorem flB_ok {fl : List MOper} {σ : Env} {H : Heap} (h : flB fl σ H = true) : flOk fl σ H := by
  intro o ho
  simp only [flB, List.all_eq_true] at h
  have := h o ho
  split at this
  · rename_i d agg a h1 h2
    split at this
    · rename_i v hv
      exact ⟨d, agg, a, h1, h2, by rw [hv, AV.beq_ok this]⟩
    · cases this
  · cases this

def evT (ev : Nat → List AV → Heap → Option (AV × Heap))   : List (List MOper) → List MOper → Env → Heap → Option (Env × Heap)
  | fl, [], σ, H => if flB (fl.headD []) σ H = true then some (σ, H) else none
  | fl, o :: os, σ, H => if flB (fl.headD []) σ H = true then (
    match o.guard with
    | none => match evOp ev (σ.keep o.reads) H o.op with
      | some (v, H') => evT ev fl.tail os (σ.put o.dst v) H'
      | none => none
    | some (t, pol) => match σ.get t with
      | .bool b => if b = pol then (match evOp ev (σ.keep o.reads) H o.op with
          | some (v, H') => evT ev fl.tail os (σ.put o.dst v) H'
          | none => none) else evT ev fl.tail os (σ.put o.dst (.tup [])) H
      | .tup [] => evT ev fl.tail os (σ.put o.dst (.tup [])) H
      | _ => none) else none

def evLoop (body : Env → Heap → Option (Ex × Env × Heap)) (keep : List Nat) : Nat → Env → Heap → Option (Ex × Env × Heap)
  | 0, _, _ => none
  | n + 1, σ, H => match body σ H with
    | some (.normal, σ', H') => evLoop body keep n (σ'.keep keep) H'
    | r => r

def evC (ev : Nat → List AV → Heap → Option (AV × Heap)) (fuel : Nat) : MCode → Env → Heap → Option (Ex × Env × Heap)
  | .skip, σ, H => some (.normal, σ, H)
  | .region ops keep, σ, H => match evOps ev ops σ H with
    | some (σ, H) => some (.normal, σ.keep keep, H)
    | none => none
  | .dregion u t fl keep, σ, H => match evU ev u σ H with
    | some (σ, H) => match evT ev fl t σ H with
      | some (σ, H) => some (.normal, σ.keep keep, H)
      | none => none
    | none => none
  | .seq a b, σ, H => match evC ev fuel a σ H with
    | some (.normal, σ, H) => evC ev fuel b σ H
    | r => r
  | .cond c a b, σ, H => match c.ev σ with
    | .bool t => if t = true then evC ev fuel a σ H else evC ev fuel b σ H
    | _ => none
  | .block id a, σ, H => match evC ev fuel a σ H with
    | some (.exit i, σ, H) => if i = id then some (.normal, σ, H) else some (.exit i, σ, H)
    | r => r
  | .loop keep a, σ, H => evLoop (fun σ H => evC ev fuel a σ H) keep fuel (σ.keep keep) H
  | .scope a, σ, H => evC ev fuel a σ H
  | .exit id, σ, H => some (.exit id, σ, H)
  | .ret, σ, H => some (.ret, σ, H)
  | .conv, _, _ => none

def evFn (F : Nat → Option MFunc) (fuel : Nat) : Nat → Nat → List AV → Heap → Option (AV × Heap)
  | 0, _, _, _ => none
  | n + 1, f, args, H => match F f with
    | some m => if args.length ≤ m.nparams then (match evC (evFn F fuel n) fuel m.body (envOf args 0) H with
        | some (.exit _, _, _) => none
        | some (_, σ, H1) => match resAV σ H1 m.results with
          | some vs => some (oneOf vs, H1)
          | none => none
        | none => none) else none
    | none => none

section
variable {C : CallR} {ev : Nat → List AV → Heap → Option (AV × Heap)}

theorem evOp_ok (hev : ∀ f args H v H', ev f args H = some (v, H') → C f args H v H') {σ : Env} {H H' : Heap} {op : MOp} {v : AV} (h : evOp ev σ H op = some (v, H')) {K : AV → Heap → Prop} (k : K v H') : wpOp C σ H op K := by
  cases op
  case call f args => exact ⟨v, H', hev _ _ _ _ _ h, k⟩
  case callv x args =>
    simp only [evOp] at h
    simp only [wpOp]
    split at h
    · rename_i heq
      rw [heq]
      exact ⟨v, H', hev _ _ _ _ _ h, k⟩
    · cases h
  all_goals exact ⟨(v, H'), h, k⟩

theorem evOps_ok (hev : ∀ f args H v H', ev f args H = some (v, H') → C f args H v H') : ∀ {os : List MOper} {σ : Env} {H : Heap} {σ' : Env} {H' : Heap}, evOps ev os σ H = some (σ', H') → ∀ {K : Env → Heap → Prop}, K σ' H' → wpOps C os σ H K
  | [], σ, H, σ', H', h, K, k => by simp only [evOps, Option.some.injEq, Prod.mk.injEq] at h; obtain ⟨rfl, rfl⟩ := h; exact k
  | o :: os, σ, H, σ', H', h, K, k => by
    unfold evOps at h
    unfold wpOps
    split at h
    · split at h
      · rename_i h1 _ _ _ h2
        rw [h1]
        exact evOp_ok hev h2 (evOps_ok hev h k)
      · cases h
    · split at h
      · rename_i h1 _ b hb
        rw [h1]
        split at h
        · rename_i hbp
          subst hbp
          split at h
          · rename_i h2
            exact .inr ⟨b, hb, fun _ => evOp_ok hev h2 (evOps_ok hev h k), fun e => by cases b <;> cases e⟩
          · cases h
        · rename_i hne
          exact .inr ⟨b, hb, fun e => absurd e hne, fun _ => evOps_ok hev h k⟩
      · rename_i h1 _ hb
        rw [h1]
        exact .inl ⟨hb, evOps_ok hev h k⟩
      · cases h

theorem evT_ok (hev : ∀ f args H v H', ev f args H = some (v, H') → C f args H v H') : ∀ {os : List MOper} {fl : List (List MOper)} {σ : Env} {H : Heap} {σ' : Env} {H' : Heap}, evT ev fl os σ H = some (σ', H') → ∀ {K : Env → Heap → Prop}, K σ' H' → wpT C fl os σ H K
  | [], fl, σ, H, σ', H', h, K, k => by
    simp only [evT] at h
    split at h
    · rename_i hf
      simp only [Option.some.injEq, Prod.mk.injEq] at h
      obtain ⟨rfl, rfl⟩ := h
      exact ⟨flB_ok hf, k⟩
    · cases h
  | o :: os, fl, σ, H, σ', H', h, K, k => by
    unfold evT at h
    unfold wpT
    split at h
    case isFalse => cases h
    rename_i hf
    refine ⟨flB_ok hf, ?_⟩
    split at h
    · split at h
      · rename_i h1 _ _ _ h2
        rw [h1]
        exact evOp_ok hev h2 (evT_ok hev h k)
      · cases h
    · split at h
      · rename_i h1 _ b hb
        rw [h1]
        split at h
        · rename_i hbp
          subst hbp
          split at h
          · rename_i h2
            exact .inr ⟨b, hb, fun _ => evOp_ok hev h2 (evT_ok hev h k), fun e => by cases b <;> cases e⟩
          · cases h
        · rename_i hne
          exact .inr ⟨b, hb, fun e => absurd e hne, fun _ => evT_ok hev h k⟩
      · rename_i h1 _ hb
        rw [h1]
        exact .inl ⟨hb, evT_ok hev h k⟩
      · cases h

theorem evU_ok (hev : ∀ f args H v H', ev f args H = some (v, H') → C f args H v H') : ∀ {os : List MOper} {σ : Env} {H : Heap} {σ' : Env} {H' : Heap}, evU ev os σ H = some (σ', H') → ∀ {K : Env → Heap → Prop}, K σ' H' → wpU C os σ H K
  | [], σ, H, σ', H', h, K, k => by simp only [evU, Option.some.injEq, Prod.mk.injEq] at h; obtain ⟨rfl, rfl⟩ := h; exact k
  | o :: os, σ, H, σ', H', h, K, k => by
    have grow : ∀ {σ1 : Env} {v : AV} {H1 : Heap}, evOp ev σ1 H o.op = some (v, H1) → (mild o.op || grown H H1) = true → ∃ N, H1 = H ++ N := by
      intro σ1 v H1 h1 h2
      rw [Bool.or_eq_true] at h2
      rcases h2 with h2 | h2
      · have : stepOp σ1 H o.op = some (v, H1) := by
          generalize o.op = op at h1 h2
          cases op <;> first | exact h1 | cases h2
        exact mild_ok h2 this
      · exact grown_ok h2
    unfold evU at h
    unfold wpU
    split at h
    · split at h
      · split at h
        · rename_i h1 _ _ _ h2 h3
          rw [h1]
          exact evOp_ok hev h2 ⟨grow h2 h3, evU_ok hev h k⟩
        · cases h
      · cases h
    · split at h
      · rename_i h1 _ b hb
        rw [h1]
        split at h
        · rename_i hbp
          subst hbp
          split at h
          · split at h
            · rename_i h2 h3
              exact .inr ⟨b, hb, fun _ => evOp_ok hev h2 ⟨grow h2 h3, evU_ok hev h k⟩, fun e => by cases b <;> cases e⟩
            · cases h
          · cases h
        · rename_i hne
          exact .inr ⟨b, hb, fun e => absurd e hne, fun _ => evU_ok hev h k⟩
      · rename_i h1 _ hb
        rw [h1]
        exact .inl ⟨hb, evU_ok hev h k⟩
      · cases h

theorem evC_ok (hev : ∀ f args H v H', ev f args H = some (v, H') → C f args H v H') {fuel : Nat} {base : Heap} : ∀ {m : MCode} {σ : Env} {H : Heap} {e : Ex} {σ' : Env} {H' : Heap}, evC ev fuel m σ H = some (e, σ', H') → ∀ {Q : Ex → Env → Heap → Prop}, Q e σ' H' → wpC C base m σ H Q
  | .skip, σ, H, e, σ', H', h, Q, k => by simp only [evC, Option.some.injEq, Prod.mk.injEq] at h; obtain ⟨rfl, rfl, rfl⟩ := h; exact k
  | .exit i, σ, H, e, σ', H', h, Q, k => by simp only [evC, Option.some.injEq, Prod.mk.injEq] at h; obtain ⟨rfl, rfl, rfl⟩ := h; exact k
  | .ret, σ, H, e, σ', H', h, Q, k => by simp only [evC, Option.some.injEq, Prod.mk.injEq] at h; obtain ⟨rfl, rfl, rfl⟩ := h; exact k
  | .conv, σ, H, e, σ', H', h, Q, k => by simp [evC] at h
  | .region ops keep, σ, H, e, σ', H', h, Q, k => by
    simp only [evC] at h
    split at h
    · rename_i h1
      simp only [Option.some.injEq, Prod.mk.injEq] at h
      obtain ⟨rfl, rfl, rfl⟩ := h
      exact evOps_ok hev h1 k
    · cases h
  | .dregion u t fl keep, σ, H, e, σ', H', h, Q, k => by
    simp only [evC] at h
    split at h
    · rename_i h1
      split at h
      · rename_i h2
        simp only [Option.some.injEq, Prod.mk.injEq] at h
        obtain ⟨rfl, rfl, rfl⟩ := h
        exact evU_ok hev h1 (evT_ok hev h2 k)
      · cases h
    · cases h
  | .seq a b, σ, H, e, σ', H', h, Q, k => by
    simp only [evC] at h
    split at h
    · rename_i h1
      exact evC_ok hev (m := a) h1 (evC_ok hev (m := b) h k)
    · rename_i hne
      refine evC_ok hev (m := a) h ?_
      cases e with
      | normal => exact absurd h (hne _ _)
      | exit i => exact k
      | ret => exact k
  | .cond c a b, σ, H, e, σ', H', h, Q, k => by
    simp only [evC] at h
    split at h
    · rename_i t ht
      split at h
      · rename_i h1
        exact ⟨t, ht, fun _ => evC_ok hev (m := a) h k, fun e => by rw [h1] at e; cases e⟩
      · rename_i h1
        exact ⟨t, ht, fun e => absurd e h1, fun _ => evC_ok hev (m := b) h k⟩
    · cases h
  | .block id a, σ, H, e, σ', H', h, Q, k => by
    simp only [evC] at h
    split at h
    · rename_i i _ _ h1
      refine evC_ok hev (m := a) h1 ?_
      simp only
      split at h
      · rename_i hi
        simp only [Option.some.injEq, Prod.mk.injEq] at h
        obtain ⟨rfl, rfl, rfl⟩ := h
        rw [if_pos hi]
        exact k
      · rename_i hi
        simp only [Option.some.injEq, Prod.mk.injEq] at h
        obtain ⟨rfl, rfl, rfl⟩ := h
        rw [if_neg hi]
        exact k
    · rename_i hne
      refine evC_ok hev (m := a) h ?_
      cases e with
      | normal => exact k
      | exit i => exact absurd h (hne _ _ _)
      | ret => exact k
  | .loop keep a, σ, H, e, σ', H', h, Q, k => by
    simp only [evC] at h
    refine ⟨fun n σ H => ∃ e σ' H', evLoop (fun σ H => evC ev fuel a σ H) keep n σ H = some (e, σ', H') ∧ Q e σ' H', ⟨fuel, e, σ', H', h, k⟩, ?_⟩
    rintro n σ H ⟨e, σ', H', h, k⟩
    cases n with
    | zero => simp [evLoop] at h
    | succ n =>
      simp only [evLoop] at h
      split at h
      · rename_i h1
        exact evC_ok hev (m := a) h1 ⟨n, by omega, e, σ', H', h, k⟩
      · rename_i hne
        refine evC_ok hev (m := a) h ?_
        cases e with
        | normal => exact absurd h (hne _ _)
        | exit i => exact k
        | ret => exact k
  | .scope a, σ, H, e, σ', H', h, Q, k => evC_ok hev (m := a) (by simpa only [evC] using h) k

end

theorem evFn_ok {P : Program} (hm : P.follows .mixedOrders = true) {F : Nat → Option MFunc} (hF : ∀ f m, F f = some m → ∃ hs, cmpFn P f hs = some m) {fuel : Nat} :
    ∀ n f args H v H', evFn F fuel n f args H = some (v, H') → Spec P f args H v H' := by
  intro n
  induction n with
  | zero => intro f args H v H' h; cases h
  | succ n ih =>
    intro f args H v H' h
    simp only [evFn] at h
    split at h
    case h_2 => cases h
    rename_i m hfm
    obtain ⟨hs, hc⟩ := hF f m hfm
    split at h
    case isFalse => cases h
    rename_i hl
    refine spec_of_wp (C := Spec P) (fun _ _ _ _ _ h => h) hm hc hl ?_
    split at h
    · cases h
    · rename_i e σ H1 hne heq
      split at h
      · rename_i vs hvs
        simp only [Option.some.injEq, Prod.mk.injEq] at h
        obtain ⟨rfl, rfl⟩ := h
        refine evC_ok (C := Spec P) (ev := evFn F fuel n) ih heq ⟨?_, vs, hvs, Fin.refl _ _ _⟩
        cases e with
        | normal => exact .inl rfl
        | exit i => exact (hne _ rfl).elim
        | ret => exact .inr rfl
      · cases h
    · cases h

/-- The same, some functions worked out otherwise. -/
def evFnO (ov : Nat → Option (List AV → Heap → Option (AV × Heap))) (F : Nat → Option MFunc) (fuel : Nat) : Nat → Nat → List AV → Heap → Option (AV × Heap)
  | 0, _, _, _ => none
  | n + 1, f, args, H => match ov f with
    | some g => g args H
    | none => match F f with
      | some m => if args.length ≤ m.nparams then (match evC (evFnO ov F fuel n) fuel m.body (envOf args 0) H with
          | some (.exit _, _, _) => none
          | some (_, σ, H1) => match resAV σ H1 m.results with
            | some vs => some (oneOf vs, H1)
            | none => none
          | none => none) else none
      | none => none

theorem evFnO_ok {P : Program} (hm : P.follows .mixedOrders = true) {F : Nat → Option MFunc} (hF : ∀ f m, F f = some m → ∃ hs, cmpFn P f hs = some m) {ov : Nat → Option (List AV → Heap → Option (AV × Heap))}
    (hov : ∀ f g, ov f = some g → ∀ args H v H', g args H = some (v, H') → Spec P f args H v H') {fuel : Nat} :
    ∀ n f args H v H', evFnO ov F fuel n f args H = some (v, H') → Spec P f args H v H' := by
  intro n
  induction n with
  | zero => intro f args H v H' h; cases h
  | succ n ih =>
    intro f args H v H' h
    simp only [evFnO] at h
    split at h
    · rename_i g hg
      exact hov f g hg args H v H' h
    split at h
    case h_2 => cases h
    rename_i m hfm
    obtain ⟨hs, hc⟩ := hF f m hfm
    split at h
    case isFalse => cases h
    rename_i hl
    refine spec_of_wp (C := Spec P) (fun _ _ _ _ _ h => h) hm hc hl ?_
    split at h
    · cases h
    · rename_i e σ H1 hne heq
      split at h
      · rename_i vs hvs
        simp only [Option.some.injEq, Prod.mk.injEq] at h
        obtain ⟨rfl, rfl⟩ := h
        refine evC_ok (C := Spec P) (ev := evFnO ov F fuel n) ih heq ⟨?_, vs, hvs, Fin.refl _ _ _⟩
        cases e with
        | normal => exact .inl rfl
        | exit i => exact (hne _ rfl).elim
        | ret => exact .inr rfl
      · cases h
    · cases h

end Go.Ab
