/-
  More of slices of the call's own: freezing, keeping blocks, lists of encoded values, filling a made slice.
  Conditions: none.
-/
import Derived.Test.YtklidlkpdhjfdaaAbAcc
import Derived.Test.YtklidlkpdhjfdaaAbFrame
namespace Go.Ab

theorem conv_picks {J J' : Heap} {σ σ' : Env} {ks : List Nat} (hs : J'.length = ks.length) (hn : ks.Nodup) (h : ∀ (i : Nat) k b', ks[i]? = some k → J'[i]? = some b' → ∃ b, J[k]? = some b ∧ BCV 0 J ks b b')
    (hσ : ∀ p ∈ σ', CV 0 J ks (σ.get p.1) p.2) : Conv [] σ J σ' J' :=
  Conv.of (H0 := []) (Hm := []) ⟨rfl, by simp, hn, hs, fun i k' b' h1 h2 => .inr (h i k' b' h1 h2)⟩ (env_cv hσ)

theorem freeze_all {J : Heap} {ks : List Nat} {k g s m : Nat} {rs : List Row} (hb : J[k]? = some (.rows g s rs)) (hk : k ∉ ks) (hm : rs.length = m) (hs : ∀ row ∈ rs, row.length = s) (hp : Plain rs) : CV 0 J ks (.slice k g 0 m) (.islice rs) := by
  have := CV.fz (n := 0) (J := J) (ks := ks) (k := k) (g := g) (a := 0) (m := m) (rows := rs) (fun i j => (((rs[i]?).getD [])[j]?).getD .undef) hb hk (by omega) hm hs
    (fun i row j c h1 h2 => ⟨⟨row, by simpa using h1, by simp [h1, h2]⟩, (hp row (List.mem_of_getElem? h1) c (List.mem_of_getElem? h2)).1⟩)
    (fun i row j c h1 h2 => by simp only [h1, Option.getD_some, h2]; exact .refl (hp row (List.mem_of_getElem? h1) c (List.mem_of_getElem? h2)).2)
  simpa using this

theorem putU_cons {C : CallR} {σ : Env} {os : List MOper} {dst : Option Nat} {K : Env → Heap → Prop} {v : AV} {x : ABlk} {J N : Heap} : putU C os dst σ (x :: J) K v (x :: (J ++ N)) = wpU C os (σ.put dst v) (x :: (J ++ N)) K := putU_app (H := x :: J)

theorem to_seqd {C : CallR} {base H : Heap} {u t : List MOper} {fl : List (List MOper)} {k : List Nat} {b : MCode} {σ : Env} {Q : Ex → Env → Heap → Prop} (h : wpC C base (.seq (.dregion u t fl k) b) σ H Q) : wpU C u σ H (tailK C t fl k (seqK C base b Q)) := by
  rw [wpC_seq, wpC_dregion] at h; exact h
theorem to_seq {C : CallR} {base H : Heap} {u : List MOper} {k : List Nat} {b : MCode} {σ : Env} {Q : Ex → Env → Heap → Prop} (h : wpC C base (.seq (.region u k) b) σ H Q) : wpOps C u σ H (regK k (seqK C base b Q)) := by
  rw [wpC_seq, wpC_region] at h; exact h
theorem to_seqs {C : CallR} {base H : Heap} {u : List MOper} {k : List Nat} {a b : MCode} {σ : Env} {Q : Ex → Env → Heap → Prop} (h : wpC C base (.seq (.seq (.region u k) a) b) σ H Q) : wpOps C u σ H (regK k (seqK C base a (seqK C base b Q))) := by
  rw [wpC_seq, wpC_seq, wpC_region] at h; exact h

/-! ### lists of encoded values -/
theorem map_row {α : Type} {enc : α → Row} {s : Nat} (h : ∀ a, (enc a).length = s) (l : List α) : ∀ row ∈ l.map enc, row.length = s := by
  intro row hr
  obtain ⟨a, _, rfl⟩ := List.mem_map.1 hr
  exact h a
theorem map_plain {α : Type} {enc : α → Row} (h : ∀ a, ∀ c ∈ enc a, c.sc = true ∧ Cl 0 c) (l : List α) : Plain (l.map enc) := by
  intro row hr
  obtain ⟨a, _, rfl⟩ := List.mem_map.1 hr
  exact h a
theorem enc_at {α : Type} {enc : α → Row} {l : List α} {j : Nat} (h : j < l.length) : (l.map enc)[j]? = some (enc l[j]) := by simp [h]

theorem map_enc_inj {α : Type} {enc : α → Row} (h : ∀ x y, enc x = enc y → x = y) : ∀ {l l' : List α}, l.map enc = l'.map enc → l = l'
  | [], [], _ => rfl
  | [], _ :: _, e => by simp at e
  | _ :: _, [], e => by simp at e
  | x :: l, y :: l', e => by
    simp only [List.map_cons, List.cons.injEq] at e
    rw [h x y e.1, map_enc_inj h e.2]

/-- A made slice that is filled from the front. -/
theorem fill_set {α : Type} {enc : α → Row} {done : List α} {z y : α} {n : Nat} : ((done ++ List.replicate (n + 1) z).map enc).set done.length (enc y) = ((done ++ [y]) ++ List.replicate n z).map enc := by
  rw [List.replicate_succ]
  simp only [List.map_append, List.map_cons]
  rw [List.set_append_right _ _ (by simp)]
  simp
theorem fill_get {α : Type} {enc : α → Row} {done : List α} {z : α} {n : Nat} : ((done ++ List.replicate (n + 1) z).map enc)[done.length]? = some (enc z) := by
  rw [List.replicate_succ]
  simp

theorem rows_set {done : List Row} {z y : Row} {n k : Nat} (hk : done.length = k) : (done ++ List.replicate (n + 1) z).set k y = (done ++ [y]) ++ List.replicate n z := by
  rw [List.replicate_succ, List.set_append_right _ _ (by omega), hk, Nat.sub_self]
  simp
theorem rows_get {done : List Row} {z : Row} {n k : Nat} (hk : done.length = k) : (done ++ List.replicate (n + 1) z)[k]? = some z := by
  rw [List.replicate_succ, List.getElem?_append_right (by omega), hk, Nat.sub_self]
  simp

/-- Frozen at the end: a made slice of rows without references. -/
theorem fin_made {J : Heap} {k g s m : Nat} {rs : List Row} (hb : J[k]? = some (.rows g s rs)) (hm : rs.length = m) (hs : ∀ row ∈ rs, row.length = s) (hp : Plain rs) : Fin [] (.slice k g 0 m) J (.islice rs) [] := fin_drop (freeze_all hb (by simp) hm hs hp)
end Go.Ab

namespace Go.Ab
/-- An equation that omega does not look at: its proofs over wrapped numbers are slow to check. -/
structure FI (a b : Int) : Prop where
  o : a = b
theorem fi64 {n : Int} (h : -9223372036854775808 ≤ n ∧ n < 9223372036854775808) : FI (wrp .i64 n) n := ⟨wrp_i64 h⟩
end Go.Ab
