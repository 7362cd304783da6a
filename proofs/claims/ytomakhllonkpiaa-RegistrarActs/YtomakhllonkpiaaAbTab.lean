/-
  More of slices of the call's own: freezing, keeping blocks, lists of encoded values, filling a made slice.
  Conditions: none.
-/
import Derived.Test.YtomakhllonkpiaaAbAcc
import Derived.Test.YtomakhllonkpiaaAbFrame
namespace Go.Ab

theorem conv_picks {J J' : Heap} {σ σ' : Env} {ks : List Nat} (hs : J'.length = ks.length) (hn : ks.Nodup) (h : ∀ (i : Nat) k b', ks[i]? = some k → J'[i]? = some b' → ∃ b, J[k]? = some b ∧ BCV 0 J ks b b')
    (hσ : ∀ p ∈ σ', CV 0 J ks (σ.get p.1) p.2) : Conv [] σ J σ' J' :=
  Conv.of (H0 := []) (Hm := []) ⟨rfl, by simp, hn, hs, fun i k' b' h1 h2 => .inr (h i k' b' h1 h2)⟩ (env_cv hσ)

theorem freeze_all {J : Heap} {ks : List Nat} {k g s m : Nat} {rs : List Row} (hb : J[k]? = some (.rows g s rs)) (hk : k ∉ ks) (hm : rs.length = m) (hs : ∀ row ∈ rs, row.length = s) (hp : Plain rs) : CV 0 J ks (.slice k g 0 m) (.islice rs) := by
  have := CV.fz (n := 0) (J := J) (ks := ks) (k := k) (g := g) (a := 0) (m := m) (rows := rs) (fun i j => (((rs[i]?).getD [])[j]?).getD .undef) hb hk (by omega) hm hs
    (fun i row j c h1 h2 => ⟨⟨row, by simpa using h1, by simp [h1, h2]⟩, (hp row (List.mem_of_getElem? h1) c (List.mem_of_getElem? h2)).1⟩)
    (fun i row j c h1 h2 => by simp only [h1, Option.getD_some, h2]; exact .refl (hp row (List.mem_of_getElem? h1) c (List.mem_of_getElem? h2)).2)
  simpa using this

theorem putU_cons {C : CallR} {σ : Env} {os : List MOper} {dst : Option Nat} {K : Env → Heap → Prop} {v : AV} {x : ABlk} {J N : Heap} : putU C os dst σ (x :: J) K v (x :: (J ++ N)) = wpU C os (σ.put dst v) (x :: (J ++ N)) K := putU_app (H := x :: J)

theorem to_seqd {C : CallR} {base H : Heap} {u t : List MOper} {fl : List (List MOper)} {k : List Nat} {b : MCode} {σ : Env} {Q : Ex → Env → Heap → Prop} (h : wpC C base (.seq (.dregion u t fl k) b) σ H Q) : wpU C u σ H (tailK C t fl k (seqK C base b Q)) := by
  rw [wpC_seq, wpC_dregion] at h; exact h
theorem to_seq {C : CallR} {base H : Heap} {u : List MOper} {k : List Nat} {b : MCode} {σ : Env} {Q : Ex → Env → Heap → Prop} (h : wpC C base (.seq (.region u k) b) σ H Q) : wpOps C u σ H (regK k (seqK C base b Q)) := by
  rw [wpC_seq, wpC_region] at h; exact h
theorem to_seqs {C : CallR} {base H : Heap} {u : List MOper} {k : List Nat} {a b : MCode} {σ : Env} {Q : Ex → Env → Heap → Prop} (h : wpC C base (.seq (.seq (.region u k) a) b) σ H Q) : wpOps C u σ H (regK k (seqK C base a (seqK C base b Q))) := by
  rw [wpC_seq, wpC_seq, wpC_region] at h; exact h

/-! ### lists of encoded values -/
theorem map_row {α : Type} {enc : α → Row} {s : Nat} (h : ∀ a, (enc a).length = s) (l : List α) : ∀ row ∈ l.map enc, row.length = s := by
  intro row hr
  obtain ⟨a, _, rfl⟩ := List.mem_map.1 hr
  exact h a
theorem map_plain {α : Type} {enc : α → Row} (h : ∀ a, ∀ c ∈ enc a, c.sc = true ∧ Cl 0 c) (l : List α) : Plain (l.map enc) := by
  intro row hr
  obtain ⟨a, _, rfl⟩ := List.mem_map.1 hr
  exact h a
theorem enc_at {α : Type} {enc : α → Row} {l : List α} {j : Nat} (h : j < l.length) : (l.map enc)[j]? = some (enc l[j]) := by simp [h]

theorem map_enc_inj {α : Type} {enc : α → Row} (h : ∀ x y, enc x = enc y → x = y) : ∀ {l l' : List α}, l.map enc = l'.map enc → l = l'
  | [], [], _ => rfl
  | [], _ :: _, e => by simp at e
  | _ :: _, [], e => by simp at e
  | x :: l, y :: l', e => by
    simp only [List.map_cons, List.cons.injEq] at e
    rw [h x y e.1, map_enc_inj h e.2]

/-- A made slice that is filled from the front. -/
theorem fill_set {α : Type} {enc : α → Row} {done : List α} {z y : α} {n : Nat} : ((done ++ List.replicate (n + 1) z).map enc).set done.length (enc y) = ((done ++ [y]) ++ List.replicate n z).map enc := by
  rw [List.replicate_succ]
  simp only [List.map_append, List.map_cons]
  rw [List.set_append_right _ _ (by simp)]
  simp
theorem fill_get {α : Type} {enc : α → Row} {done : List α} {z : α} {n : Nat} : ((done ++ List.replicate (n + 1) z).map enc)[done.length]? = some (enc z) := by
  rw [List.replicate_succ]
  simp

theorem rows_set {done : List Row} {z y : Row} {n k : Nat} (hk : done.length = k) : (done ++ List.replicate (n + 1) z).set k y = (done ++ [y]) ++ List.replicate n z := by
  rw [List.replicate_succ, List.set_append_right _ _ (by omega), hk, Nat.sub_self]
  simp
theorem rows_get {done : List Row} {z : Row} {n k : Nat} (hk : done.length = k) : (done ++ List.replicate (n + 1) z)[k]? = some z := by
  rw [List.replicate_succ, List.getElem?_append_right (by omega), hk, Nat.sub_self]
  simp

/-- Frozen at the end: a made slice of rows without references. -/
theorem fin_made {J : Heap} {k g s m : Nat} {rs : List Row} (hb : J[k]? = some (.rows g s rs)) (hm : rs.length = m) (hs : ∀ row ∈ rs, row.length = s) (hp : Plain rs) : Fin [] (.slice k g 0 m) J (.islice rs) [] := fin_drop (freeze_all hb (by simp) hm hs hp)
end Go.Ab

namespace Go.Ab
/-- An equation that omega does not look at: its proofs over wrapped numbers are slow to check. -/
structure FI (a b : Int) : Prop where
  o : a = b
theorem fi64 {n : Int} (h : -9223372036854775808 ≤ n ∧ n < 9223372036854775808) : FI (wrp .i64 n) n := ⟨wrp_i64 h⟩
end Go.Ab

namespace Go.Ab
/-- A condition, told otherwise. -/
theorem condK_of {x y : Bool} {A B : Prop} (e : x = y) (h1 : y = true → A) (h2 : y = false → B) : condK (.bool x) A B := by
  subst e
  rw [condK_bool]
  exact ⟨h1, h2⟩
end Go.Ab

namespace Go.Ab
/-- The block that a slice refers to. -/
def refOf : AV → Option Nat
  | .slice r _ _ _ => some r
  | _ => none

theorem AccL.nil {sz : Nat} {H : Heap} : AccL sz [] .nils H := .inl ⟨rfl, rfl⟩

/-- An append to one of several slices of the call's own: the other blocks stay. -/
theorem AccL.app {H : Heap} {sz b : Nat} {l news : List Row} {c x : AV} (h : AccL sz l c H) (hx : elems H x = some news) (hl : ∀ row ∈ news, row.length = sz) (hroom : (l.length + news.length) * b ≤ roomB) {K : AV × Heap → Prop}
    (k : ∀ c' H', AccL sz (l ++ news) c' H' → (∀ r blk, H[r]? = some blk → refOf c ≠ some r → H'[r]? = some blk) → (∀ r, refOf c' = some r → refOf c = some r ∨ (refOf c = none ∧ r = H.length)) → K (c', H')) : W (appendAV H sz b c x) K := by
  rcases h with ⟨rfl, rfl⟩ | ⟨r, g, rfl, hr⟩
  · cases news with
    | nil => exact ⟨_, append_nil0 hx, k _ _ (.inl ⟨rfl, rfl⟩) (fun r blk h _ => h) (fun r h => by cases h)⟩
    | cons row rest =>
      refine ⟨_, append_nil hx hl (by simpa using hroom), k _ _ (.inr ⟨H.length, 0, by simp, by simp⟩) (fun r blk h _ => ?_) (fun r h => .inr ⟨rfl, ?_⟩)⟩
      · rw [List.getElem?_append_left (List.getElem?_eq_some_iff.1 h).1]; exact h
      · simp only [refOf, Option.some.injEq] at h; exact h.symm
  · refine W_app hr hx hl hroom fun g' => k _ _ (.inr ⟨r, g', by simp, ?_⟩) (fun r' blk h hne => ?_) (fun r' h => .inl h)
    · rw [List.getElem?_set_self (List.getElem?_eq_some_iff.1 hr).1]
    · rw [List.getElem?_set_ne (fun e => hne (by rw [e]; rfl))]; exact h
theorem AccL.keep {H H' : Heap} {sz : Nat} {l : List Row} {c : AV} (h : AccL sz l c H) (hk : ∀ r blk, H[r]? = some blk → refOf c = some r → H'[r]? = some blk) : AccL sz l c H' := by
  rcases h with h | ⟨r, g, rfl, hr⟩
  · exact .inl h
  · exact .inr ⟨r, g, rfl, hk _ _ hr rfl⟩
end Go.Ab

namespace Go.Ab
theorem bcv_plain' {n : Nat} {J : Heap} {ks : List Nat} {g s : Nat} {rs : List Row} (hl : ∀ row ∈ rs, row.length = s) (hp : Plain rs) : BCV n J ks (.rows g s rs) (.rows g s rs) := bcv_plain hl hp
/-- At the end, one block of the call's own is handed out behind the heap that it found. -/
theorem fin_keep1 {H J : Heap} {k g s : Nat} {rs : List Row} {v1 v : AV} (hk : J[k]? = some (.rows g s rs)) (hl : ∀ row ∈ rs, row.length = s) (hp : Plain rs) (hv : CV H.length J [k] v1 v) : Fin H v1 (H ++ J) v (H ++ [.rows g s rs]) :=
  Fin.of (H0 := H) (Hm := H) (J := J) (J' := [.rows g s rs]) (ks := [k]) ⟨rfl, fun r b h => .inl h, by simp, rfl, fun i k' b' h1 h2 => by
    match i with
    | 0 =>
      simp at h1 h2
      subst h1 h2
      exact .inr ⟨_, hk, bcv_plain hl hp⟩
    | i + 1 => simp at h1⟩ hv
end Go.Ab

namespace Go.Ab
theorem freeze_at {n : Nat} {J : Heap} {ks : List Nat} {k g s m : Nat} {rs : List Row} (hb : J[k]? = some (.rows g s rs)) (hk : k ∉ ks) (hm : rs.length = m) (hs : ∀ row ∈ rs, row.length = s) (hp : Plain rs) : CV n J ks (.slice (n + k) g 0 m) (.islice rs) := by
  have := CV.fz (n := n) (J := J) (ks := ks) (k := k) (g := g) (a := 0) (m := m) (rows := rs) (fun i j => (((rs[i]?).getD [])[j]?).getD .undef) hb hk (by omega) hm hs
    (fun i row j c h1 h2 => ⟨⟨row, by simpa using h1, by simp [h1, h2]⟩, (hp row (List.mem_of_getElem? h1) c (List.mem_of_getElem? h2)).1⟩)
    (fun i row j c h1 h2 => by
      simp only [h1, Option.getD_some, h2]
      exact .refl ((hp row (List.mem_of_getElem? h1) c (List.mem_of_getElem? h2)).2.mono (Nat.zero_le _)))
  simpa using this
/-- A slice of the call's own behind H0, frozen at the end. -/
theorem AccL.freezeN {H0 J : Heap} {sz : Nat} {l : List Row} {c : AV} (h : AccL sz l c (H0 ++ J)) (hr : ∀ r, refOf c = some r → H0.length ≤ r) (hs : ∀ row ∈ l, row.length = sz) (hp : Plain l) : CV H0.length J [] c (.islice l) := by
  rcases h with ⟨rfl, rfl⟩ | ⟨r, g, rfl, hb⟩
  · exact .nil0
  · have hge := hr r rfl
    obtain ⟨k, rfl⟩ : ∃ k, r = H0.length + k := ⟨r - H0.length, by omega⟩
    rw [List.getElem?_append_right (by omega), Nat.add_sub_cancel_left] at hb
    exact freeze_at hb (by simp) rfl hs hp
end Go.Ab

/-
  Calls of proved functions as a table: where each entry's arguments tell its outcome, the simplifier works a call out.
  Conditions: none.
-/
namespace Go.Ab

/-- A proved function: for each a of α, from the arguments enc a it comes to res a, in whatever heap. -/
structure Entry (P : Program) where
  f : Nat
  α : Type
  enc : α → List AV
  res : α → AV
  inj : ∀ a b, enc a = enc b → res a = res b
  ok : ∀ a H, Spec P f (enc a) H (res a) H

def CE {P : Program} (es : List (Entry P)) : CallR := fun f args H v H' => H' = H ∧ ∃ e, e ∈ es ∧ e.f = f ∧ ∃ a, args = e.enc a ∧ v = e.res a

theorem CE_ok {P : Program} {es : List (Entry P)} (f : Nat) (args : List AV) (H : Heap) (v : AV) (H' : Heap) (h : CE es f args H v H') : Spec P f args H v H' := by
  obtain ⟨rfl, e, _, rfl, a, rfl, rfl⟩ := h
  exact e.ok a _

/-- The entry of a function. -/
def entryAt {P : Program} : List (Entry P) → Nat → Option (Entry P)
  | [], _ => none
  | e :: es, f => if e.f = f then (if (es.all fun e' => decide (e'.f ≠ f)) = true then some e else none) else entryAt es f

theorem entryAt_ok {P : Program} : ∀ {es : List (Entry P)} {f : Nat} {e : Entry P}, entryAt es f = some e → e.f = f ∧ e ∈ es ∧ ∀ e' ∈ es, e'.f = f → e' = e
  | [], f, e, h => by cases h
  | x :: es, f, e, h => by
    unfold entryAt at h
    split at h
    · rename_i hf
      split at h
      · rename_i hall
        cases h
        refine ⟨hf, List.mem_cons_self .., fun e' he' h' => ?_⟩
        rcases List.mem_cons.1 he' with rfl | he'
        · rfl
        · rw [List.all_eq_true] at hall
          have := hall e' he'
          simp only [decide_eq_true_eq] at this
          exact absurd h' this
      · cases h
    · rename_i hf
      obtain ⟨h1, h2, h3⟩ := entryAt_ok h
      refine ⟨h1, List.mem_cons_of_mem _ h2, fun e' he' h' => ?_⟩
      rcases List.mem_cons.1 he' with rfl | he'
      · exact absurd h' hf
      · exact h3 e' he' h'

/-- A call of an entry. -/
theorem callK_E {P : Program} {es : List (Entry P)} {f : Nat} {e : Entry P} (he : entryAt es f = some e) (a : e.α) {H : Heap} {K : AV → Heap → Prop} : callK (CE es) f (e.enc a) H K = K (e.res a) H := by
  obtain ⟨h1, h2, h3⟩ := entryAt_ok he
  apply propext
  constructor
  · rintro ⟨v, H', ⟨rfl, e', m, hf, b, hb, rfl⟩, hk⟩
    have := h3 e' m hf
    subst this
    rw [e'.inj _ _ hb]
    exact hk
  · intro hk
    exact ⟨_, _, ⟨rfl, e, h2, h1, a, rfl, rfl⟩, hk⟩
end Go.Ab
