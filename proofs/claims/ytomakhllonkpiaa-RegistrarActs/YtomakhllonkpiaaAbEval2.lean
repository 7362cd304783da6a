/-
  An evaluator that gives up, behind a call, what the call made: results are told as immutable values, and the heap stays as it was.
  Conditions: none.
-/
import Derived.Test.YtomakhllonkpiaaAbLaw
import Derived.Test.YtomakhllonkpiaaAbFrame
namespace Go.Ab

def mapO {α β : Type} (f : α → Option β) : List α → Option (List β)
  | [] => some []
  | a :: as => match f a with
    | some b => match mapO f as with
      | some bs => some (b :: bs)
      | none => none
    | none => none

theorem mapO_ok {α β : Type} {f : α → Option β} : ∀ {l : List α} {l' : List β}, mapO f l = some l' → l'.length = l.length ∧ ∀ (i : Nat) a b, l[i]? = some a → l'[i]? = some b → f a = some b
  | [], l', h => by simp only [mapO, Option.some.injEq] at h; subst h; simp
  | a :: as, l', h => by
    simp only [mapO] at h
    split at h
    case h_2 => cases h
    rename_i b hb
    split at h
    case h_2 => cases h
    rename_i bs hbs
    cases h
    obtain ⟨k1, k2⟩ := mapO_ok hbs
    refine ⟨by simp [k1], fun i x y hx hy => ?_⟩
    cases i with
    | zero => simp at hx hy; subst hx hy; exact hb
    | succ i => simp at hx hy; exact k2 i x y hx hy

def clB : Nat → AV → Bool
  | 0, _ => false
  | d + 1, v => match v with
    | .undef | .int .. | .bool _ | .str _ | .nilp | .nils | .nilf | .nilmap | .nilI => true
    | .islice rows | .iptr rows _ _ => rows.all fun row => row.all (clB d)
    | .agg cs | .tup cs => cs.all (clB d)
    | .func _ a b => a.all (clB d) && b.all (clB d)
    | .iface _ v => clB d v
    | _ => false

theorem clB_ok : ∀ {d : Nat} {v : AV}, clB d v = true → Cl 0 v
  | 0, _, h => by simp [clB] at h
  | d + 1, v, h => by
    have two : ∀ rows : List Row, (rows.all fun row => row.all (clB d)) = true → ∀ (i : Nat) row (j : Nat) c, rows[i]? = some row → row[j]? = some c → Cl 0 c := by
      intro rows h i row j c h1 h2
      rw [List.all_eq_true] at h
      have := h row (List.mem_of_getElem? h1)
      rw [List.all_eq_true] at this
      exact clB_ok (this c (List.mem_of_getElem? h2))
    have one : ∀ cs : List AV, cs.all (clB d) = true → ∀ (i : Nat) c, cs[i]? = some c → Cl 0 c := by
      intro cs h i c h1
      rw [List.all_eq_true] at h
      exact clB_ok (h c (List.mem_of_getElem? h1))
    cases v <;> simp only [clB, Bool.false_eq_true, Bool.and_eq_true] at h
    case undef => exact .undef
    case int => exact .int
    case bool => exact .bool
    case str => exact .str
    case nilp => exact .nilp
    case nils => exact .nils
    case nilf => exact .nilf
    case nilmap => exact .nilmap
    case nilI => exact .nilI
    case islice => exact .islice (two _ h)
    case iptr => exact .iptr (two _ h)
    case agg => exact .agg (one _ h)
    case tup => exact .tup (one _ h)
    case func => exact .func (one _ h.1) (one _ h.2)
    case iface => exact .iface (clB_ok h)

/-- A value told as immutable. -/
def frz (J : Heap) : Nat → AV → Option AV
  | 0, _ => none
  | d + 1, v => match v with
    | .slice r g i n => match J[r]? with
      | some (.rows g' s rs) => if (Nat.beq g g' && Nat.ble (i + n) rs.length) = true then (match mapO (mapO (frz J d)) ((rs.drop i).take n) with
          | some rows => if (rows.all fun row => Nat.beq row.length s && row.all AV.sc) = true then some (.islice rows) else none
          | none => none) else none
      | _ => none
    | .agg cs => match mapO (frz J d) cs with
      | some cs' => some (.agg cs')
      | none => none
    | .tup cs => match mapO (frz J d) cs with
      | some cs' => some (.tup cs')
      | none => none
    | v => if clB (d + 1) v = true then some v else none

theorem frzAV_ok {J : Heap} : ∀ {d : Nat} {v v' : AV}, frz J d v = some v' → CV 0 J [] v v' ∧ Cl 0 v'
  | 0, _, _, h => by simp [frz] at h
  | d + 1, v, v', h => by
    have lst : ∀ {cs cs' : List AV}, mapO (frz J d) cs = some cs' → cs'.length = cs.length ∧ (∀ (i : Nat) c c', cs[i]? = some c → cs'[i]? = some c' → CV 0 J [] c c') ∧ ∀ (i : Nat) c', cs'[i]? = some c' → Cl 0 c' := by
      intro cs cs' h
      obtain ⟨k1, k2⟩ := mapO_ok h
      refine ⟨k1, fun i c c' h1 h2 => (frzAV_ok (k2 i c c' h1 h2)).1, fun i c' h2 => ?_⟩
      obtain ⟨c, hc⟩ : ∃ c, cs[i]? = some c := ⟨cs[i]'(by have := (List.getElem?_eq_some_iff.1 h2).1; omega), by simp⟩
      exact (frzAV_ok (k2 i c c' hc h2)).2
    have rest : (∀ r g i n, v ≠ .slice r g i n) → (∀ cs, v ≠ .agg cs) → (∀ cs, v ≠ .tup cs) → CV 0 J [] v v' ∧ Cl 0 v' := by
      intro n1 n2 n3
      have : frz J (d + 1) v = if clB (d + 1) v = true then some v else none := by
        cases v <;> first | rfl | exact absurd rfl (n1 _ _ _ _) | exact absurd rfl (n2 _) | exact absurd rfl (n3 _)
      rw [this] at h
      split at h
      · rename_i hc
        cases h
        exact ⟨.refl (clB_ok hc), clB_ok hc⟩
      · cases h
    cases v
    case slice r g i n =>
      simp only [frz] at h
      split at h
      case h_2 => cases h
      rename_i g' s rs hJ
      split at h
      case isFalse => cases h
      rename_i hg
      split at h
      case h_2 => cases h
      rename_i rows hrows
      split at h
      case isFalse => cases h
      rename_i hall
      cases h
      simp only [Bool.and_eq_true, Nat.beq_eq, Nat.ble_eq] at hg
      obtain ⟨rfl, hle⟩ := hg
      obtain ⟨k1, k2⟩ := mapO_ok hrows
      rw [List.all_eq_true] at hall
      have hrow : ∀ row ∈ rows, row.length = s ∧ row.all AV.sc = true := by
        intro row hr
        have := hall row hr
        rw [Bool.and_eq_true, Nat.beq_eq] at this
        exact this
      have hsrc : ∀ (k : Nat) row, rows[k]? = some row → ∃ row0, rs[i + k]? = some row0 ∧ mapO (frz J d) row0 = some row := by
        intro k row hk
        have hlt := (List.getElem?_eq_some_iff.1 hk).1
        obtain ⟨row0, h0⟩ : ∃ row0, ((rs.drop i).take n)[k]? = some row0 := ⟨_, List.getElem?_eq_getElem (by omega)⟩
        refine ⟨row0, ?_, k2 k row0 row h0 hk⟩
        rw [List.getElem?_take] at h0
        split at h0
        · rw [List.getElem?_drop] at h0; exact h0
        · cases h0
      have hlen : rows.length = n := by
        rw [k1, List.length_take, List.length_drop]; omega
      have cell : ∀ (k : Nat) row (j : Nat) c, rows[k]? = some row → row[j]? = some c → ∃ row0 c0, rs[i + k]? = some row0 ∧ row0[j]? = some c0 ∧ frz J d c0 = some c := by
        intro k row j c h1 h2
        obtain ⟨row0, q1, q2⟩ := hsrc k row h1
        obtain ⟨m1, m2⟩ := mapO_ok q2
        obtain ⟨c0, hc0⟩ : ∃ c0, row0[j]? = some c0 := ⟨row0[j]'(by have := (List.getElem?_eq_some_iff.1 h2).1; omega), by simp⟩
        exact ⟨row0, c0, q1, hc0, m2 j c0 c hc0 h2⟩
      refine ⟨?_, .islice fun k row j c h1 h2 => ?_⟩
      · have := CV.fz (n := 0) (J := J) (ks := []) (k := r) (g := g) (a := i) (m := n) (rows := rows) (fun k j => (((rs[i + k]?).getD [])[j]?).getD .undef) hJ (by simp) hle hlen (fun row hr => (hrow row hr).1)
          (fun k row j c h1 h2 => by
            obtain ⟨row0, c0, q1, q2, q3⟩ := cell k row j c h1 h2
            refine ⟨⟨row0, q1, by simp [q1, q2]⟩, ?_⟩
            exact (List.all_eq_true.1 (hrow row (List.mem_of_getElem? h1)).2) c (List.mem_of_getElem? h2))
          (fun k row j c h1 h2 => by
            obtain ⟨row0, c0, q1, q2, q3⟩ := cell k row j c h1 h2
            simp only [q1, Option.getD_some, q2]
            exact (frzAV_ok q3).1)
        simpa using this
      · obtain ⟨row0, c0, q1, q2, q3⟩ := cell k row j c h1 h2
        exact (frzAV_ok q3).2
    case agg cs =>
      simp only [frz] at h
      split at h
      · rename_i cs' hcs
        cases h
        obtain ⟨k1, k2, k3⟩ := lst hcs
        exact ⟨.agg k1 k2, .agg k3⟩
      · cases h
    case tup cs =>
      simp only [frz] at h
      split at h
      · rename_i cs' hcs
        cases h
        obtain ⟨k1, k2, k3⟩ := lst hcs
        exact ⟨.tup k1 k2, .tup k3⟩
      · cases h
    all_goals exact rest (by simp) (by simp) (by simp)

/-- The result of a contract told at no heap, as immutable. -/
theorem Spec.frozen {P : Program} {f : Nat} {args : List AV} {v v' : AV} {J : Heap} (h : Spec P f args [] v J) (hv : CV 0 J [] v v') : Spec P f args [] v' [] := by
  refine ⟨h.1, fun X w vs hH hvs => ?_⟩
  let X0 : Ctx := { X with top := 0 }
  have hH0 : HRel X0 [] w := ⟨fun r bi hr => by
    obtain ⟨b, k1, k2⟩ := hH.blk r bi hr
    simp at k1, hH.inj, hH.own, hH.old, Nat.zero_le _⟩
  have ht : X.top = 0 := by have := hH.top; simpa using this
  have e0 : X0 = X := by cases X; simp only at ht; subst ht; rfl
  refine (h.2 X w vs hH hvs).mono ?_
  rintro e w' ⟨u, X', rfl, k1, k2, k3⟩
  obtain ⟨X2, q1, q2, q3⟩ := (fin_drop hv) X w X' w' u hH ht k3 k2 k1
  exact ⟨u, X2, rfl, q2, q1, q3⟩

/-- Arguments lent to a callee that only reads. -/
def lendB (H : Heap) : Nat → AV → Option AV
  | 0, _ => none
  | d + 1, v => match v with
    | .nils => some (.islice [])
    | .slice r g i n => match elems H (.slice r g i n) with
      | some rows => if (rows.all fun row => row.all (clB d)) = true then some (.islice rows) else none
      | none => none
    | .agg cs => match mapO (lendB H d) cs with
      | some cs' => some (.agg cs')
      | none => none
    | v => if clB (d + 1) v = true then some v else none

theorem lendB_ok {H : Heap} : ∀ {d : Nat} {v v' : AV}, lendB H d v = some v' → Lend H v v'
  | 0, _, _, h => by simp [lendB] at h
  | d + 1, v, v', h => by
    have rest : (∀ r g i n, v ≠ .slice r g i n) → (∀ cs, v ≠ .agg cs) → v ≠ .nils → Lend H v v' := by
      intro n1 n2 n3
      have : lendB H (d + 1) v = if clB (d + 1) v = true then some v else none := by
        cases v <;> first | rfl | exact absurd rfl (n1 _ _ _ _) | exact absurd rfl (n2 _) | exact absurd rfl n3
      rw [this] at h
      split at h
      · rename_i hc
        cases h
        exact .pure (clB_ok hc)
      · cases h
    cases v
    case nils => simp only [lendB, Option.some.injEq] at h; subst h; exact .nils
    case slice r g i n =>
      simp only [lendB] at h
      split at h
      case h_2 => cases h
      rename_i rows hrows
      split at h
      case isFalse => cases h
      rename_i hall
      cases h
      refine .slice hrows fun i row j c h1 h2 => ?_
      rw [List.all_eq_true] at hall
      have := hall row (List.mem_of_getElem? h1)
      rw [List.all_eq_true] at this
      exact clB_ok (this c (List.mem_of_getElem? h2))
    case agg cs =>
      simp only [lendB] at h
      split at h
      · rename_i cs' hcs
        cases h
        obtain ⟨k1, k2⟩ := mapO_ok hcs
        exact .agg k1 fun i c c' h1 h2 => lendB_ok (k2 i c c' h1 h2)
      · cases h
    all_goals exact rest (by simp) (by simp) (by simp)

def flatB : Nat → AV → Bool
  | 0, _ => false
  | d + 1, v => match v with
    | .undef | .int .. | .bool _ | .str _ => true
    | .agg cs | .tup cs => cs.all (flatB d)
    | _ => false

theorem flatB_ok : ∀ {d : Nat} {v : AV}, flatB d v = true → Flat v
  | 0, _, h => by simp [flatB] at h
  | d + 1, v, h => by
    have one : ∀ cs : List AV, cs.all (flatB d) = true → ∀ (i : Nat) c, cs[i]? = some c → Flat c := by
      intro cs h i c h1
      rw [List.all_eq_true] at h
      exact flatB_ok (h c (List.mem_of_getElem? h1))
    cases v <;> simp only [flatB, Bool.false_eq_true] at h
    case undef => exact .undef
    case int => exact .int
    case bool => exact .bool
    case str => exact .str
    case agg => exact .agg (one _ h)
    case tup => exact .tup (one _ h)

/-- What is known of some functions ahead: worked out otherwise (ov); told flat (1) or immutable (2), the heap as it was (pf). -/
def evFnP (ov : Nat → Option (List AV → Heap → Option (AV × Heap))) (pf : Nat → Nat) (F : Nat → Option MFunc) (fuel : Nat) : Nat → Nat → List AV → Heap → Option (AV × Heap)
  | 0, _, _, _ => none
  | n + 1, f, args, H =>
    let run (m : MFunc) (args : List AV) (H : Heap) : Option (AV × Heap) :=
      if Nat.ble args.length m.nparams = true then (match evC (evFnP ov pf F fuel n) fuel m.body (envOf args 0) H with
        | some (.exit _, _, _) => none
        | some (_, σ, H1) => match resAV σ H1 m.results with
          | some vs => some (oneOf vs, H1)
          | none => none
        | none => none) else none
    match ov f with
    | some g => g args H
    | none => match F f with
      | none => none
      | some m => match pf f with
        | 1 => match mapO (lendB H 20) args with
          | some args' => match run m args' [] with
            | some (v, _) => if flatB 20 v = true then some (v, H) else none
            | none => none
          | none => run m args H
        | 2 => if args.all (clB 20) = true then (match run m args [] with
            | some (v, J) => match frz J 20 v with
              | some v' => some (v', H)
              | none => none
            | none => none) else run m args H
        | _ => run m args H

theorem evFnP_ok {P : Program} (hm : P.follows .mixedOrders = true) {F : Nat → Option MFunc} (hF : ∀ f m, F f = some m → ∃ hs, cmpFn P f hs = some m) {ov : Nat → Option (List AV → Heap → Option (AV × Heap))}
    (hov : ∀ f g, ov f = some g → ∀ args H v H', g args H = some (v, H') → Spec P f args H v H') {pf : Nat → Nat} {fuel : Nat} :
    ∀ n f args H v H', evFnP ov pf F fuel n f args H = some (v, H') → Spec P f args H v H' := by
  intro n
  induction n with
  | zero => intro f args H v H' h; cases h
  | succ n ih =>
    intro f args H v H' h
    have run_ok : ∀ (m : MFunc), F f = some m → ∀ (args : List AV) (H : Heap) v H', (if Nat.ble args.length m.nparams = true then (match evC (evFnP ov pf F fuel n) fuel m.body (envOf args 0) H with
        | some (.exit _, _, _) => none
        | some (_, σ, H1) => match resAV σ H1 m.results with
          | some vs => some (oneOf vs, H1)
          | none => none
        | none => none) else none) = some (v, H') → Spec P f args H v H' := by
      intro m hfm args H v H' h
      obtain ⟨hs, hc⟩ := hF f m hfm
      split at h
      case isFalse => cases h
      rename_i hl
      refine spec_of_wp (C := Spec P) (fun _ _ _ _ _ h => h) hm hc (by simpa using hl) ?_
      split at h
      · cases h
      · rename_i e σ H1 hne heq
        split at h
        · rename_i vs hvs
          simp only [Option.some.injEq, Prod.mk.injEq] at h
          obtain ⟨rfl, rfl⟩ := h
          refine evC_ok (C := Spec P) (ev := evFnP ov pf F fuel n) ih heq ⟨?_, vs, hvs, Fin.refl _ _ _⟩
          cases e with
          | normal => exact .inl rfl
          | exit i => exact (hne _ rfl).elim
          | ret => exact .inr rfl
        · cases h
      · cases h
    simp only [evFnP] at h
    split at h
    · rename_i g hg
      exact hov f g hg args H v H' h
    split at h
    · cases h
    rename_i m hfm
    split at h
    · split at h
      · rename_i args' ha
        split at h
        · rename_i v1 H1 hr
          split at h
          · rename_i hfl
            cases h
            obtain ⟨k1, k2⟩ := mapO_ok ha
            exact (run_ok m hfm _ _ _ _ hr).lend k1 (fun i c c' a b => lendB_ok (k2 i c c' a b)) (flatB_ok hfl)
          · cases h
        · cases h
      · exact run_ok m hfm _ _ _ _ h
    · split at h
      · rename_i hcl
        split at h
        · rename_i v1 J hr
          split at h
          · rename_i v2 hv
            cases h
            obtain ⟨q1, q2⟩ := frzAV_ok hv
            rw [List.all_eq_true] at hcl
            exact ((run_ok m hfm _ _ _ _ hr).frozen q1).frame (fun i c hc => clB_ok (hcl c (List.mem_of_getElem? hc))) q2 H
          · cases h
        · cases h
      · exact run_ok m hfm _ _ _ _ h
    · exact run_ok m hfm _ _ _ _ h

theorem true_of_evalP {P : Program} (hm : P.follows .mixedOrders = true) {l : List (Nat × MFunc)} (hl : Tbl P l) {ov : Nat → Option (List AV → Heap → Option (AV × Heap))}
    (hov : ∀ f g, ov f = some g → ∀ args H v H', g args H = some (v, H') → Spec P f args H v H') {pf : Nat → Nat} {fuel n f : Nat} {args : List AV} (h : isTrue (evFnP ov pf (look l) fuel n f args []) = true) : ∃ H', Spec P f args [] (.bool true) H' := by
  unfold isTrue at h
  split at h
  · rename_i H' he
    exact ⟨H', evFnP_ok hm hl.look hov n f args [] _ H' he⟩
  · cases h

/-- A table of numbers. -/
def lookN : List (Nat × Nat) → Nat → Nat
  | [], _ => 0
  | (g, m) :: l, f => if Nat.beq g f = true then m else lookN l f

theorem no_ov {P : Program} : ∀ f g, (fun _ => none : Nat → Option (List AV → Heap → Option (AV × Heap))) f = some g → ∀ args H v H', g args H = some (v, H') → Spec P f args H v H' := by
  intro f g h; cases h

end Go.Ab
