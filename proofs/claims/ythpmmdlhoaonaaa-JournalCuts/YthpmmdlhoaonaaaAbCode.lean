/-
  The translation of code, and that the calculus speaks of the model's runs of it.
  Conditions: none.
-/
import Derived.Test.YthpmmdlhoaonaaaAbPerm
namespace Go.Ab

def withConv (h : RH) (m : MCode) : MCode := if h.conv then .seq .conv m else m

def cmpC (P : Program) (N : Nat) : Code → List RH → Option (MCode × List RH)
  | .skip, hs => some (.skip, hs)
  | .region _ ops false, h :: hs => (cmpOpers P N ops ops.toList).bind fun ms => some (withConv h (.region ms h.keep), hs)
  | .region _ ops true, h :: hs => (cmpOpers P N (reord h.perm ops) (reord h.perm ops).toList).bind fun ms =>
      if okDraw (reord h.perm ops) ms h.u = true then some (withConv h (.dregion (ms.take h.u) (ms.drop h.u) (flOf (reord h.perm ops) ms h.u) h.keep), hs) else none
  | .seq a b, hs => (cmpC P N a hs).bind fun x => (cmpC P N b x.2).bind fun y => some (.seq x.1 y.1, y.2)
  | .cond c a b, hs => (cmpOpd c).bind fun c => (cmpC P N a hs).bind fun x => (cmpC P N b x.2).bind fun y => some (.cond c x.1 y.1, y.2)
  | .block id c, hs => (cmpC P N c hs).bind fun x => some (.block id x.1, x.2)
  | .loop c, h :: hs => (cmpC P N c hs).bind fun x => some (.loop h.keep x.1, x.2)
  | .scope c, hs => (cmpC P N c hs).bind fun x => some (.scope x.1, x.2)
  | .exit id, hs => some (.exit id, hs)
  | .ret, hs => some (.ret, hs)
  | _, _ => none

theorem Post.mono {N : Nat} {X0 : Ctx} {w0 : World} {Q Q' : Ex → Env → Heap → Prop} (h : ∀ e σ H, Q e σ H → Q' e σ H) {x : Exit} {a : Act} {w : World} (p : Post N X0 w0 Q x a w) : Post N X0 w0 Q' x a w := by
  obtain ⟨e, σ, H, X, h1, h2, h3⟩ := p
  exact ⟨e, σ, H, X, h1, h _ _ _ h2, h3⟩

theorem wpOp_mono {C : CallR} {σ : Env} {H : Heap} {op : MOp} {K K' : AV → Heap → Prop} (h : ∀ v H, K v H → K' v H) (p : wpOp C σ H op K) : wpOp C σ H op K' := by
  cases op
  case call f args => obtain ⟨v, H', h1, h2⟩ := p; exact ⟨v, H', h1, h _ _ h2⟩
  case callv x args =>
    simp only [wpOp] at p ⊢
    split at p
    · obtain ⟨v, H', h1, h2⟩ := p
      exact ⟨v, H', h1, h _ _ h2⟩
    · exact p.elim
  all_goals (obtain ⟨q, h1, h2⟩ := p; exact ⟨q, h1, h _ _ h2⟩)

theorem wpOps_mono {C : CallR} {K K' : Env → Heap → Prop} (h : ∀ σ H, K σ H → K' σ H) : ∀ {os : List MOper} {σ : Env} {H : Heap}, wpOps C os σ H K → wpOps C os σ H K'
  | [], σ, H, p => h σ H p
  | o :: os, σ, H, p => by
    unfold wpOps at p ⊢
    split at p
    · exact wpOp_mono (fun v H' q => wpOps_mono h q) p
    · exact gdP_mono p (fun p => wpOp_mono (fun v H' q => wpOps_mono h q) p) (fun p => wpOps_mono h p)

theorem wpU_mono {C : CallR} {K K' : Env → Heap → Prop} (h : ∀ σ H, K σ H → K' σ H) : ∀ {os : List MOper} {σ : Env} {H : Heap}, wpU C os σ H K → wpU C os σ H K'
  | [], σ, H, p => h σ H p
  | o :: os, σ, H, p => by
    unfold wpU at p ⊢
    split at p
    · exact wpOp_mono (fun v H' q => ⟨q.1, wpU_mono h q.2⟩) p
    · exact gdP_mono p (fun p => wpOp_mono (fun v H' q => ⟨q.1, wpU_mono h q.2⟩) p) (fun p => wpU_mono h p)

theorem wpT_mono {C : CallR} {K K' : Env → Heap → Prop} (h : ∀ σ H, K σ H → K' σ H) : ∀ {os : List MOper} {fl : List (List MOper)} {σ : Env} {H : Heap}, wpT C fl os σ H K → wpT C fl os σ H K'
  | [], _, σ, H, p => ⟨p.1, h σ H p.2⟩
  | o :: os, _, σ, H, p => by
    unfold wpT at p ⊢
    refine ⟨p.1, ?_⟩
    have p := p.2
    split at p
    · exact wpOp_mono (fun v H' q => wpT_mono h q) p
    · exact gdP_mono p (fun p => wpOp_mono (fun v H' q => wpT_mono h q) p) (fun p => wpT_mono h p)

theorem wpC_mono {C : CallR} {base : Heap} : ∀ {m : MCode} {Q Q' : Ex → Env → Heap → Prop}, (∀ e σ H, Q e σ H → Q' e σ H) → ∀ {σ : Env} {H : Heap}, wpC C base m σ H Q → wpC C base m σ H Q'
  | .skip, _, _, h, _, _, p => h _ _ _ p
  | .region _ _, _, _, h, _, _, p => wpOps_mono (fun _ _ q => h _ _ _ q) p
  | .dregion _ _ _ _, _, _, h, _, _, p => wpU_mono (fun _ _ q => wpT_mono (fun _ _ q => h _ _ _ q) q) p
  | .seq a b, Q, Q', h, _, _, p => by
    refine wpC_mono (m := a) (fun e σ H q => ?_) p
    cases e with
    | normal => exact wpC_mono (m := b) h q
    | exit i => exact h _ _ _ q
    | ret => exact h _ _ _ q
  | .cond _ a b, _, _, h, _, _, ⟨t, h1, h2, h3⟩ => ⟨t, h1, fun e => wpC_mono (m := a) h (h2 e), fun e => wpC_mono (m := b) h (h3 e)⟩
  | .block id a, Q, Q', h, _, _, p => by
    refine wpC_mono (m := a) (fun e σ H q => ?_) p
    cases e with
    | normal => exact h _ _ _ q
    | exit i =>
      simp only at q ⊢
      split at q
      · rename_i e; rw [if_pos e]; exact h _ _ _ q
      · rename_i e; rw [if_neg e]; exact h _ _ _ q
    | ret => exact h _ _ _ q
  | .loop _ a, Q, Q', h, _, _, ⟨I, h1, h2⟩ => ⟨I, h1, fun n σ H hI => by
      refine wpC_mono (m := a) (fun e σ H q => ?_) (h2 n σ H hI)
      cases e with
      | normal => exact q
      | exit i => exact h _ _ _ q
      | ret => exact h _ _ _ q⟩
  | .scope a, _, _, h, _, _, p => wpC_mono (m := a) h p
  | .exit _, _, _, h, _, _, p => h _ _ _ p
  | .ret, _, _, h, _, _, p => h _ _ _ p
  | .conv, _, _, h, _, _, ⟨s, H', h1, h2⟩ => ⟨s, H', h1, h _ _ _ h2⟩

section
variable {P : Program} {C : CallR} {N : Nat} {base : Heap}

/-- Ahead of a region, the state told anew. -/
theorem withConv_ok {h : RH} {m : MCode} {σ : Env} {H : Heap} {Q : Ex → Env → Heap → Prop} (p : wpC C base (withConv h m) σ H Q) :
    ∃ σ' H', (σ' = σ ∧ H' = H ∨ Conv base σ H σ' H') ∧ wpC C base m σ' H' Q := by
  unfold withConv at p
  split at p
  · obtain ⟨σ', H', h1, h2⟩ := p
    exact ⟨σ', H', .inr h1, h2⟩
  · exact ⟨σ, H, .inl ⟨rfl, rfl⟩, p⟩

theorem conv_at {X0 X : Ctx} {w0 w : World} (h0 : HRel X0 base w0) (ho : X0.top = base.length) {σ σ' : Env} {H H' : Heap} {a : Act} (hc : σ' = σ ∧ H' = H ∨ Conv base σ H σ' H')
    (hs : Stp X0 w0 X w) (hH : HRel X H w) (hA : ARel N X w σ a) : ∃ X', Stp X0 w0 X' w ∧ HRel X' H' w ∧ ARel N X' w σ' a := by
  rcases hc with ⟨rfl, rfl⟩ | hc
  · exact ⟨X, hs, hH, hA⟩
  · obtain ⟨X', h1, h2, h3⟩ := hc X0 w0 X w a.tmps h0 ho hs hH hA.f
    exact ⟨X', h3, h1, h2, hA.size, hA.defers⟩

theorem wpC_sound (hC : ∀ f args H v H', C f args H v H' → Spec P f args H v H') (hm : P.follows .mixedOrders = true) {X0 : Ctx} {w0 : World} (h0 : HRel X0 base w0) (ho : X0.top = base.length) :
    ∀ (c : Code) {hs hs' : List RH} {m : MCode}, cmpC P N c hs = some (m, hs') → ∀ {Q : Ex → Env → Heap → Prop} {σ : Env} {H : Heap} {X : Ctx} {w : World} {a : Act},
      Stp X0 w0 X w → HRel X H w → ARel N X w σ a → wpC C base m σ H Q → c.wp P (Post N X0 w0 Q) a w
  | .skip, hs, hs', m, hc, Q, σ, H, X, w, a, h1, h2, h3, h4 => by
    simp only [cmpC, Option.some.injEq, Prod.mk.injEq] at hc
    obtain ⟨rfl, rfl⟩ := hc
    exact wp_skip ⟨.normal, σ, H, X, trivial, h4, h3, h2, h1⟩
  | .exit id, hs, hs', m, hc, Q, σ, H, X, w, a, h1, h2, h3, h4 => by
    simp only [cmpC, Option.some.injEq, Prod.mk.injEq] at hc
    obtain ⟨rfl, rfl⟩ := hc
    exact wp_exit ⟨.exit id, σ, H, X, rfl, h4, h3, h2, h1⟩
  | .ret, hs, hs', m, hc, Q, σ, H, X, w, a, h1, h2, h3, h4 => by
    simp only [cmpC, Option.some.injEq, Prod.mk.injEq] at hc
    obtain ⟨rfl, rfl⟩ := hc
    exact wp_ret ⟨.ret, σ, H, X, trivial, h4, h3, h2, h1⟩
  | .scope c, hs, hs', m, hc, Q, σ, H, X, w, a, h1, h2, h3, h4 => by
    simp only [cmpC, Option.bind_eq_some_iff, Option.some.injEq, Prod.mk.injEq] at hc
    obtain ⟨x, hx, rfl, rfl⟩ := hc
    refine wp_scope_straight (wp_mono (wpC_sound hC hm h0 ho c hx h1 h2 h3 h4) ?_)
    rintro e a w ⟨x, σ, H, X, k1, k2⟩
    cases e with
    | goto l => exact k1.elim
    | _ => exact ⟨x, σ, H, X, k1, k2⟩
  | .seq c d, hs, hs', m, hc, Q, σ, H, X, w, a, h1, h2, h3, h4 => by
    simp only [cmpC, Option.bind_eq_some_iff, Option.some.injEq, Prod.mk.injEq] at hc
    obtain ⟨x, hx, y, hy, rfl, rfl⟩ := hc
    refine wp_seq (wp_mono (wpC_sound hC hm h0 ho c hx h1 h2 h3 h4) ?_)
    rintro e a w ⟨ex, σ, H, X, k1, k2, k3, k4, k5⟩
    cases e with
    | normal =>
      cases ex with
      | normal => exact wpC_sound hC hm h0 ho d hy k5 k4 k3 k2
      | exit i => exact k1.elim
      | ret => exact k1.elim
    | exit i =>
      cases ex with
      | normal => exact k1.elim
      | exit j => exact ⟨.exit j, σ, H, X, k1, k2, k3, k4, k5⟩
      | ret => exact k1.elim
    | ret =>
      cases ex with
      | normal => exact k1.elim
      | exit j => exact k1.elim
      | ret => exact ⟨.ret, σ, H, X, k1, k2, k3, k4, k5⟩
    | goto l => exact k1.elim
    | panic l => exact k1.elim
    | outgrown => exact k1.elim
  | .cond c x y, hs, hs', m, hc, Q, σ, H, X, w, a, h1, h2, h3, h4 => by
    simp only [cmpC, Option.bind_eq_some_iff, Option.some.injEq, Prod.mk.injEq] at hc
    obtain ⟨cc, hcc, x', hx, y', hy, rfl, rfl⟩ := hc
    obtain ⟨b, k1, k2, k3⟩ := h4
    have := opd_ok h3.f hcc
    rw [k1] at this
    refine wp_cond (t := b) (bool_of_rel this) ?_
    cases b with
    | true => exact wpC_sound hC hm h0 ho x hx h1 h2 h3 (k2 rfl)
    | false => exact wpC_sound hC hm h0 ho y hy h1 h2 h3 (k3 rfl)
  | .block id c, hs, hs', m, hc, Q, σ, H, X, w, a, h1, h2, h3, h4 => by
    simp only [cmpC, Option.bind_eq_some_iff, Option.some.injEq, Prod.mk.injEq] at hc
    obtain ⟨x, hx, rfl, rfl⟩ := hc
    refine wp_block (wp_mono (wpC_sound hC hm h0 ho c hx h1 h2 h3 h4) ?_)
    rintro e a w ⟨ex, σ, H, X, k1, k2, k3, k4, k5⟩
    cases e with
    | normal =>
      cases ex with
      | normal => exact ⟨.normal, σ, H, X, trivial, k2, k3, k4, k5⟩
      | exit i => exact k1.elim
      | ret => exact k1.elim
    | exit i =>
      cases ex with
      | normal => exact k1.elim
      | exit j =>
        have e : i = j := k1
        subst e
        simp only [Exit.inBlock] at k2 ⊢
        by_cases e : i = id
        · rw [if_pos e] at k2 ⊢; exact ⟨.normal, σ, H, X, trivial, k2, k3, k4, k5⟩
        · rw [if_neg e] at k2 ⊢; exact ⟨.exit i, σ, H, X, rfl, k2, k3, k4, k5⟩
      | ret => exact k1.elim
    | ret =>
      cases ex with
      | normal => exact k1.elim
      | exit j => exact k1.elim
      | ret => exact ⟨.ret, σ, H, X, k1, k2, k3, k4, k5⟩
    | goto l => exact k1.elim
    | panic l => exact k1.elim
    | outgrown => exact k1.elim
  | .loop c, [], hs', m, hc, Q, σ, H, X, w, a, h1, h2, h3, h4 => by simp [cmpC] at hc
  | .loop c, h :: hs, hs', m, hc, Q, σ, H, X, w, a, h1, h2, h3, h4 => by
    simp only [cmpC, Option.bind_eq_some_iff, Option.some.injEq, Prod.mk.injEq] at hc
    obtain ⟨x, hx, rfl, rfl⟩ := hc
    obtain ⟨I, ⟨n0, hI0⟩, hI⟩ := h4
    let J (n : Nat) (a : Act) (w : World) : Prop := ∃ σ H X, I n σ H ∧ ARel N X w σ a ∧ HRel X H w ∧ Stp X0 w0 X w
    classical
    let μ (a : Act) (w : World) : Nat := if h : ∃ n, J n a w ∧ ∀ m, J m a w → n ≤ m then h.choose else 0
    have least : ∀ (a : Act) (w : World), (∃ n, J n a w) → ∃ n, J n a w ∧ ∀ m, J m a w → n ≤ m := by
      intro a w h
      obtain ⟨n, hn⟩ := h
      induction n using Nat.strongRecOn with
      | _ n ih =>
        by_cases hl : ∃ m, m < n ∧ J m a w
        · obtain ⟨m, h1, h2⟩ := hl; exact ih m h1 h2
        · exact ⟨n, hn, fun m hm => Nat.le_of_not_lt fun hlt => hl ⟨m, hlt, hm⟩⟩
    have hμ : ∀ a w, (∃ n, J n a w) → J (μ a w) a w ∧ ∀ m, J m a w → μ a w ≤ m := by
      intro a w h
      have := least a w h
      simp only [μ, dif_pos this]
      exact this.choose_spec
    refine wp_loop (fun a w => ∃ n, J n a w) μ ⟨n0, _, H, X, hI0, ⟨h3.f.keep _, h3.size, h3.defers⟩, h2, h1⟩ ?_
    intro a w hJ
    obtain ⟨⟨σ, H, X, j1, j2, j3, j4⟩, _⟩ := hμ a w hJ
    refine wp_mono (wpC_sound hC hm h0 ho c hx j4 j3 j2 (hI _ σ H j1)) ?_
    rintro e a' w' ⟨ex, σ, H, X, k1, k2, k3, k4, k5⟩
    cases e with
    | normal =>
      cases ex with
      | normal =>
        obtain ⟨m, hlt, hIm⟩ := k2
        have hJm : J m a' w' := ⟨_, H, X, hIm, ⟨k3.f.keep _, k3.size, k3.defers⟩, k4, k5⟩
        exact ⟨⟨m, hJm⟩, Nat.lt_of_le_of_lt ((hμ a' w' ⟨m, hJm⟩).2 m hJm) hlt⟩
      | exit i => exact k1.elim
      | ret => exact k1.elim
    | exit i =>
      cases ex with
      | normal => exact k1.elim
      | exit j => exact ⟨.exit j, σ, H, X, k1, k2, k3, k4, k5⟩
      | ret => exact k1.elim
    | ret =>
      cases ex with
      | normal => exact k1.elim
      | exit j => exact k1.elim
      | ret => exact ⟨.ret, σ, H, X, k1, k2, k3, k4, k5⟩
    | goto l => exact k1.elim
    | panic l => exact k1.elim
    | outgrown => exact k1.elim
  | .region id ops d, [], hs', m, hc, Q, σ, H, X, w, a, h1, h2, h3, h4 => by cases d <;> simp [cmpC] at hc
  | .region id ops false, h :: hs, hs', m, hc, Q, σ, H, X, w, a, h1, h2, h3, h4 => by
    simp only [cmpC, Option.bind_eq_some_iff, Option.some.injEq, Prod.mk.injEq] at hc
    obtain ⟨ms, hx, rfl, rfl⟩ := hc
    obtain ⟨σ', H', k1, k2⟩ := withConv_ok h4
    obtain ⟨X', j1, j2, j3⟩ := conv_at h0 ho k1 h1 h2 h3
    refine wp_region_list (list_sound hC hx j1 j2 j3 k2 ?_)
    intro σ H X w a q1 q2 q3 q4
    exact ⟨.normal, _, H, X, trivial, q1, ⟨q4.f.keep _, q4.size, q4.defers⟩, q3, q2⟩
  | .region id ops true, h :: hs, hs', m, hc, Q, σ, H, X, w, a, h1, h2, h3, h4 => by
    simp only [cmpC, Option.bind_eq_some_iff] at hc
    obtain ⟨ms, hx, hc⟩ := hc
    split at hc
    case isFalse => cases hc
    rename_i hok
    simp only [Option.some.injEq, Prod.mk.injEq] at hc
    obtain ⟨rfl, rfl⟩ := hc
    obtain ⟨σ', H', k1, k2⟩ := withConv_ok h4
    obtain ⟨X', j1, j2, j3⟩ := conv_at h0 ho k1 h1 h2 h3
    refine wp_region_any hm (reord_ok (draw_sound hC hx hok (j1.trans (Stp.drawn _ _ _)) j2.drawn ⟨fun t => (j3.f t).drawn, j3.size, j3.defers⟩ k2 ?_))
    intro σ H X w a q1 q2 q3 q4
    exact ⟨.normal, _, H, X, trivial, q1, ⟨q4.f.keep _, q4.size, q4.defers⟩, q3, q2⟩

end
end Go.Ab
