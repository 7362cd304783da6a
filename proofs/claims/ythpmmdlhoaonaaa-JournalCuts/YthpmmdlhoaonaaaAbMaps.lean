/-
  Maps with plain keys: under the relation.
  Conditions: none.
-/
import Derived.Test.YthpmmdlhoaonaaaAbMap
namespace Go.Ab

/-- The kind of a key's type. -/
def kkOf (P : Program) (t : TypeId) : Option Nat :=
  match P.underlying t with
  | some (.int _) => some 0
  | some .bool => some 1
  | some .string => some 2
  | _ => none

theorem kk_inv {P : Program} {t : TypeId} {k : Nat} (h : kkOf P t = some k) : ∃ d, P.underlying t = some d ∧ ((∃ q, d = .int q) ∧ k = 0 ∨ d = .bool ∧ k = 1 ∨ d = .string ∧ k = 2) := by
  unfold kkOf at h
  split at h <;> rename_i hu <;> cases h
  · exact ⟨_, hu, .inl ⟨⟨_, rfl⟩, rfl⟩⟩
  · exact ⟨_, hu, .inr (.inl ⟨rfl, rfl⟩)⟩
  · exact ⟨_, hu, .inr (.inr ⟨rfl, rfl⟩)⟩

theorem sameNow_ok {X : Ctx} {w : World} {d : TypeDesc} {k : Nat} (hk : (∃ q, d = .int q) ∧ k = 0 ∨ d = .bool ∧ k = 1 ∨ d = .string ∧ k = 2) {a b : AV} {u v : Value} (ha : VRel X w a u) (hb : VRel X w b v) {r : Bool} (h : cellEq k a b = some r) :
    Instr.sameNow d u v = some r := by
  rcases hk with ⟨⟨q, rfl⟩, rfl⟩ | ⟨rfl, rfl⟩ | ⟨rfl, rfl⟩
  · cases a <;> simp only [cellEq, reduceCtorEq] at h
    cases b <;> simp only [reduceCtorEq] at h
    split at h
    · rename_i e; subst e; cases h; cases ha; cases hb
      simp [Instr.sameNow]; rfl
    · cases h
  · cases a <;> simp only [cellEq, reduceCtorEq] at h
    cases b <;> simp only [reduceCtorEq, Option.some.injEq] at h
    subst h; cases ha; cases hb
    rfl
  · cases a <;> simp only [cellEq, reduceCtorEq] at h
    cases b <;> simp only [reduceCtorEq, Option.some.injEq] at h
    subst h; cases ha; cases hb
    rename_i x hx y hy
    subst hx hy
    simp only [Instr.sameNow, beq_data]

theorem findNow_ok {X : Ctx} {w : World} {d : TypeDesc} {k : Nat} (hk : (∃ q, d = .int q) ∧ k = 0 ∨ d = .bool ∧ k = 1 ∨ d = .string ∧ k = 2) {c : AV} {u : Value} (hc : VRel X w c u) :
    ∀ (es : List (AV × AV × Nat)) (ms : List MapEntry) (i : Nat) (o : Option (Nat × AV)), es.length = ms.length → (∀ (j : Nat) e m, es[j]? = some e → ms[j]? = some m → ERelE X w e m) → findAV k c es i = some o →
      match o with
      | none => Instr.findNow d u ms i = some none
      | some (j, v) => ∃ m, Instr.findNow d u ms i = some (some (j, m.val)) ∧ VRel X w v m.val ∧ i ≤ j ∧ ms[j - i]? = some m ∧ ∃ e, es[j - i]? = some e ∧ cellEq k c e.1 = some true
  | [], ms, i, o, hl, _, h => by
    have : ms = [] := List.eq_nil_of_length_eq_zero (by rw [← hl]; rfl)
    subst this
    simp only [findAV, Option.some.injEq] at h
    subst h
    rfl
  | (k', v, b) :: es, ms, i, o, hl, hr, h => by
    cases ms with
    | nil => simp at hl
    | cons m ms =>
      simp only [findAV, Option.bind_eq_some_iff] at h
      obtain ⟨r, h1, h2⟩ := h
      have h0 := hr 0 (k', v, b) m (by simp) (by simp)
      have hs := sameNow_ok hk hc h0.key h1
      cases r
      · simp only [Bool.false_eq_true, if_false] at h2
        have ih := findNow_ok hk hc es ms (i + 1) o (by simpa using hl) (fun j e m a b => hr (j + 1) e m (by simpa using a) (by simpa using b)) h2
        cases o with
        | none => simp only at ih ⊢; simp only [Instr.findNow, hs, ih]
        | some p =>
          obtain ⟨j, w'⟩ := p
          simp only at ih ⊢
          obtain ⟨m', q1, q2, q3, q4, e, q5, q6⟩ := ih
          refine ⟨m', by simp only [Instr.findNow, hs, q1], q2, by omega, ?_, e, ?_, q6⟩
          · rw [show j - i = (j - (i + 1)) + 1 by omega]; simpa using q4
          · rw [show j - i = (j - (i + 1)) + 1 by omega]; simpa using q5
      · simp only [if_true, Option.some.injEq] at h2
        subst h2
        exact ⟨m, by simp only [Instr.findNow, hs], h0.val, Nat.le_refl _, by simp, (k', v, b), by simp, h1⟩

theorem checkKey_ok {P : Program} {w : World} {t : TypeId} {d : TypeDesc} (hu : P.underlying t = some d) {k : Nat} (hk : (∃ q, d = .int q) ∧ k = 0 ∨ d = .bool ∧ k = 1 ∨ d = .string ∧ k = 2) (e : Bool) (D : Nat) (v : Value) :
    (Instr.checkKey e (D + 1) t v).run P w = .ok () w := by
  rcases hk with ⟨⟨q, rfl⟩, rfl⟩ | ⟨rfl, rfl⟩ | ⟨rfl, rfl⟩ <;> simp [Instr.checkKey, run_underlying hu]

theorem map_at {X : Ctx} {H : Heap} {w : World} (hH : HRel X H w) {r : Nat} {v : Value} (hv : VRel X w (.map r) v) {es : List (AV × AV × Nat)} {clock : Nat} (hb : H[r]? = some (.map es clock)) :
    ∃ bi ms, X.blk r = some bi ∧ bi.g = 0 ∧ v = .map (some bi.B) ∧ w.heap[bi.B]? = some (.map (List.toArray ms) clock) ∧ es.length = ms.length ∧ ∀ (i : Nat) e m, es[i]? = some e → ms[i]? = some m → ERelE X w e m := by
  cases hv with
  | map hx hg =>
    rename_i b bi
    obtain ⟨b', h1, h2⟩ := hH.blk r bi hx
    rw [hb] at h1
    cases h1
    cases h2 with
    | map k1 k2 k3 k4 =>
      have := hg k1
      subst this
      exact ⟨bi, _, hx, k1, rfl, k2, k3, k4⟩

theorem look_ok {X : Ctx} {H : Heap} {w : World} (hH : HRel X H w) {P : Program} {t kt e : TypeId} {kk : Nat} {z m k c : AV} {zv vm vk : Value} {ok : Bool} (hu : P.underlying t = some (.map kt e)) (hkk : kkOf P kt = some kk)
    (hz : (zeroValue e).run P w = .ok zv w) (hzr : VRel X w z zv) (hm : VRel X w m vm) (hk : VRel X w k vk) (he : lookAV H kk z ok m k = some c) :
    ∃ v, (Instr.lookup t vm vk ok).run P w = .ok v w ∧ VRel X w c v := by
  obtain ⟨d, hd, hkd⟩ := kk_inv hkk
  have fin : ∀ (es : List (AV × AV × Nat)) (ms : List MapEntry), es.length = ms.length → (∀ (i : Nat) e m, es[i]? = some e → ms[i]? = some m → ERelE X w e m) → ∀ o, findAV kk k es 0 = some o →
      (match o with | some (_, v) => some (if ok then AV.tup [v, .bool true] else v) | none => some (if ok then AV.tup [z, .bool false] else z)) = some c →
      ∃ v, (do
        Instr.checkKey ms.toArray.isEmpty 10000 kt vk
        let (v, ok') ← match ← Instr.findKey kt vk ms.toArray.toList with
          | some (_, v) => pure (v, true)
          | none => pure (← zeroValue e, false)
        pure (if ok then Value.tuple #[v, .bool ok'] else v) : Sem Value).run P w = .ok v w ∧ VRel X w c v := by
    intro es ms hl hr o h1 h2
    have hf := findNow_ok hkd hk es ms 0 o hl hr h1
    have hck : ∀ b, (Instr.checkKey b 10000 kt vk).run P w = .ok () w := fun b => checkKey_ok hd hkd b 9999 vk
    cases o with
    | none =>
      simp only at hf
      have hfk : (Instr.findKey kt vk ms).run P w = .ok none w := by simp [Instr.findKey, run_underlying hd, hf]
      simp only [Option.some.injEq] at h2
      subst h2
      refine ⟨if ok then .tuple #[zv, .bool false] else zv, by simp [hck, hfk, hz], ?_⟩
      cases ok
      · simpa using hzr
      · simp only [if_true]
        refine .tup (vs := [zv, .bool false]) rfl (fun i c v hc hv => ?_)
        match i with
        | 0 => simp at hc hv; subst hc; subst hv; exact hzr
        | 1 => simp at hc hv; subst hc; subst hv; exact .bool
        | i + 2 => simp at hc
    | some p =>
      obtain ⟨j, v⟩ := p
      simp only at hf
      obtain ⟨mm, q1, q2, _⟩ := hf
      have hfk : (Instr.findKey kt vk ms).run P w = .ok (some (j, mm.val)) w := by simp [Instr.findKey, run_underlying hd, q1]
      simp only [Option.some.injEq] at h2
      subst h2
      refine ⟨if ok then .tuple #[mm.val, .bool true] else mm.val, by simp [hck, hfk], ?_⟩
      cases ok
      · simpa using q2
      · simp only [if_true]
        refine .tup (vs := [mm.val, .bool true]) rfl (fun i c v hc hv => ?_)
        match i with
        | 0 => simp at hc hv; subst hc; subst hv; exact q2
        | 1 => simp at hc hv; subst hc; subst hv; exact .bool
        | i + 2 => simp at hc
  unfold lookAV at he
  simp only [Option.bind_eq_some_iff] at he
  obtain ⟨es, h0, o, h1, h2⟩ := he
  cases hm <;> simp only [reduceCtorEq, Option.some.injEq] at h0
  case nilmap =>
    subst h0
    obtain ⟨v, g1, g2⟩ := fin [] [] rfl (by simp) o h1 h2
    refine ⟨v, ?_, g2⟩
    unfold Instr.lookup
    rw [Sem.run_bind, run_underlying hu, Result.andThen_ok]
    exact g1
  case map r b bi hx hg =>
    split at h0
    case h_2 => cases h0
    rename_i es' clock hb
    cases h0
    obtain ⟨bi', ms, k1, k2, k3, k4, k5, k6⟩ := map_at hH (.map hx hg) hb
    cases k3
    have hget : (getObj bi'.B).run P w = .ok (.map ms.toArray clock) w := by simp [getObj, Sem.run, k4]
    obtain ⟨v, g1, g2⟩ := fin _ ms k5 k6 o h1 h2
    refine ⟨v, ?_, g2⟩
    unfold Instr.lookup
    rw [Sem.run_bind, run_underlying hu, Result.andThen_ok]
    simp only
    rw [Sem.run_bind, hget, Result.andThen_ok]
    exact g1

theorem same_bits {X : Ctx} {w : World} {d : TypeDesc} {k : Nat} (hk : (∃ q, d = .int q) ∧ k = 0 ∨ d = .bool ∧ k = 1 ∨ d = .string ∧ k = 2) {a b : AV} {u v : Value} (ha : VRel X w a u) (hb : VRel X w b v) (h : cellEq k a b = some true) (D : Nat) :
    Instr.sameBits D v u = true := by
  rcases hk with ⟨⟨q, rfl⟩, rfl⟩ | ⟨rfl, rfl⟩ | ⟨rfl, rfl⟩
  · cases a <;> simp only [cellEq, reduceCtorEq] at h
    cases b <;> simp only [reduceCtorEq] at h
    split at h
    · rename_i e; subst e; cases ha; cases hb
      simp only [Option.some.injEq, decide_eq_true_eq] at h
      subst h
      simp [Instr.sameBits]
    · cases h
  · cases a <;> simp only [cellEq, reduceCtorEq] at h
    cases b <;> simp only [reduceCtorEq, Option.some.injEq] at h
    cases ha; cases hb
    simp only [beq_iff_eq] at h
    subst h
    simp [Instr.sameBits]
  · cases a <;> simp only [cellEq, reduceCtorEq] at h
    cases b <;> simp only [reduceCtorEq, Option.some.injEq, decide_eq_true_eq] at h
    cases ha; cases hb
    rename_i x hx y hy
    simp only [Instr.sameBits, beq_data]
    simp [hx, hy, h]

theorem mupd_ok {X : Ctx} {H H' : Heap} {w : World} (hH : HRel X H w) {P : Program} {t kt e : TypeId} {kk : Nat} {m k c : AV} {vm vk vc : Value} (hu : P.underlying t = some (.map kt e)) (hkk : kkOf P kt = some kk)
    (hm : VRel X w m vm) (hk : VRel X w k vk) (hc : VRel X w c vc) (he : mupdAV H kk m k c = some H') :
    ∃ w' X', (Instr.mapUpdate t vm vk vc).run P w = .ok () w' ∧ HRel X' H' w' ∧ Stp X w X' w' := by
  obtain ⟨d, hd, hkd⟩ := kk_inv hkk
  cases hm <;> simp only [mupdAV, reduceCtorEq] at he
  case map r b bi hx hg =>
    split at he
    case h_2 => cases he
    rename_i es clock hb
    simp only [Option.bind_eq_some_iff] at he
    obtain ⟨o, h1, h2⟩ := he
    obtain ⟨bi', ms, k1, k2, k3, k4, k5, k6⟩ := map_at hH (.map hx hg) hb
    cases k3
    have hbb : bi' = bi := by rw [hx] at k1; exact (Option.some.inj k1).symm
    subst hbb
    have hget : (getObj bi'.B).run P w = .ok (.map ms.toArray clock) w := by simp [getObj, Sem.run, k4]
    have hset : ∀ o', (setObj bi'.B o').run P w = .ok () { w with heap := w.heap.setIfInBounds bi'.B o' } := by intro o'; simp [setObj, Sem.run, k4]
    have hlt := (Array.getElem?_eq_some_iff.1 k4).1
    have hck : (Instr.checkKey false 10000 kt vk).run P w = .ok () w := checkKey_ok hd hkd false 9999 vk
    have hf := findNow_ok hkd hk es ms 0 o k5 k6 h1
    have upd : ∀ o', Upd X w r bi' bi' { w with heap := w.heap.setIfInBounds bi'.B o' } := fun o' =>
      { was := hx, size := by simp, os := rfl, tape := rfl, output := rfl
        others := fun b _ hne => by simp [Array.getElem?_setIfInBounds_ne (Ne.symm hne)]
        later := .inl rfl, place := .inl rfl, lt := by simpa using hlt }
    cases o with
    | none =>
      simp only at hf
      simp only [Option.some.injEq] at h2
      subst h2
      have hfk : (Instr.findKey kt vk ms).run P w = .ok none w := by simp [Instr.findKey, run_underlying hd, hf]
      refine ⟨_, _, by simp [Instr.mapUpdate, run_underlying hu, hget, hck, hfk, hset]; rfl, (upd _).hrel hH ?_, (upd _).stp hH.own⟩
      refine .map (ms := ms ++ [{ key := vk, val := vc, born := clock }]) k2 (by simp [hlt]) (by simp [k5]) (fun i e m a b => ?_)
      have hst := (upd (.map (ms.toArray.push ({ key := vk, val := vc, born := clock } : MapEntry)) (clock + 1))).stp hH.own
      by_cases hi : i < es.length
      · rw [List.getElem?_append_left hi] at a
        rw [List.getElem?_append_left (by omega)] at b
        have := k6 i e m a b
        exact ⟨this.key.step hH (by simpa using hst), this.val.step hH (by simpa using hst), this.born⟩
      · rw [List.getElem?_append_right (by omega)] at a
        rw [List.getElem?_append_right (by omega), ← k5] at b
        have hi0 : i - es.length = 0 := by have := (List.getElem?_eq_some_iff.1 a).1; simp at this; omega
        rw [hi0] at a b
        simp at a b
        subst a; subst b
        exact ⟨hk.step hH (by simpa using hst), hc.step hH (by simpa using hst), rfl⟩
    | some p =>
      obtain ⟨j, v⟩ := p
      simp only at hf
      simp only [Option.some.injEq] at h2
      subst h2
      obtain ⟨mm, q1, q2, _, q4, e0, q5, q6⟩ := hf
      simp only [Nat.sub_zero] at q4 q5
      have hfk : (Instr.findKey kt vk ms).run P w = .ok (some (j, mm.val)) w := by simp [Instr.findKey, run_underlying hd, q1]
      have hsb : Instr.sameBits 10000 mm.key vk = true := same_bits hkd hk (k6 j e0 mm q5 q4).key q6 10000
      have hkeep : (Instr.keyThatStays mm.key vk).run P w = .ok vk w := by simp [Instr.keyThatStays, hsb]
      have hold : ((ms.toArray[j]?).map (·.key)).getD vk = mm.key := by simp [q4]
      refine ⟨_, _, by simp [Instr.mapUpdate, run_underlying hu, hget, hck, hfk, q4, hkeep, hset]; rfl, (upd _).hrel hH ?_, (upd _).stp hH.own⟩
      have hst := (upd (.map (ms.toArray.modify j fun e => { e with key := vk, val := vc }) clock)).stp hH.own
      refine .map (ms := ms.modify j fun e => { e with key := vk, val := vc }) k2 (by simp [hlt]) (by simp [k5]) (fun i e m a b => ?_)
      rw [List.getElem?_modify] at a b
      simp only [List.modify_toArray] at hst
      cases hei : es[i]? with
      | none => rw [hei] at a; simp at a
      | some ei => cases hmi : ms[i]? with
        | none => rw [hmi] at b; simp at b
        | some mi =>
          rw [hei] at a
          rw [hmi] at b
          have h0 := k6 i ei mi hei hmi
          simp only [Option.map_eq_map, Option.map_some, Option.some.injEq] at a b
          by_cases hij : j = i
          · rw [if_pos hij] at a b
            subst a; subst b
            exact ⟨hk.step hH (by simpa using hst), hc.step hH (by simpa using hst), h0.born⟩
          · rw [if_neg hij] at a b
            subst a; subst b
            exact ⟨h0.key.step hH (by simpa using hst), h0.val.step hH (by simpa using hst), h0.born⟩

end Go.Ab
