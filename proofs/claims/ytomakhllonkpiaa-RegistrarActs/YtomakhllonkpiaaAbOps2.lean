/-
  Conversions, slices, addresses, parts, arithmetic, maps: under the relation.
  Conditions: none.
-/
import Derived.Test.YtomakhllonkpiaaAbOps
import Derived.Laws.IdiomStrings
import Derived.Laws.BytesString
import Derived.Laws.Strings
namespace Go.Ab

theorem freeze_heap (w : World) (b off : Nat) {c : Array Value} {e : TypeId} {lo hi : Nat} (h : w.heap[b]? = some (.cells c e (lo, hi))) :
    (w.freeze ⟨b, off, none⟩ 1).heap[b]? = some (.cells c e (if lo == hi then (off, off + 1) else (min lo off, max hi (off + 1)))) := by
  unfold World.freeze
  rw [if_neg (by decide)]
  simp only [Array.getElem?_modify, if_true, h, Option.map_some]

theorem freeze_other (w : World) (b off : Nat) {b' : Nat} (h : b' ≠ b) : (w.freeze ⟨b, off, none⟩ 1).heap[b']? = w.heap[b']? := by
  unfold World.freeze
  rw [if_neg (by decide)]
  simp only [Array.getElem?_modify, if_neg (Ne.symm h)]

/-- The conversion of a slice of bytes of this call's own to its own type: what lies behind its last cell is marked. -/
theorem slid_ok {X : Ctx} {H : Heap} {w : World} (hH : HRel X H w) {P : Program} {t e : TypeId} {r g i n : Nat} {v : Value} (hv : VRel X w (.slice r g i n) v) (hn : 0 < n) {q : Nat × List Row} (hb : H.blkOf r g = some q)
    (hd : P.underlying t = some (.slice e)) (he : P.underlying e = some (.int .u8)) :
    ∃ w' X', (convert t t v).run P w = .ok v w' ∧ VRel X' w' (.slice r g i n) v ∧ HRel X' H w' ∧ Stp X w X' w' := by
  have hblk := Heap.blkOf_some hb
  cases hv with
  | slice h1 h2 h3 h4 =>
    rename_i a cap bi
    have hbr := hH.at hblk h1
    cases hbr with
    | rows e1 e2 e3 e4 e5 e6 e7 e8 =>
      rename_i cs el lo hi
      obtain ⟨q1, q2⟩ := h4 e1
      have ha := q1 (by omega)
      subst ha
      have hlt : bi.B < w.heap.size := (Array.getElem?_eq_some_iff.1 e3).1
      have hu : Upd X w r bi bi (w.freeze ⟨bi.B, cs.size, none⟩ 1) := by
        refine ⟨h1, ?_, ?_, ?_, ?_, fun b _ hne => freeze_other w bi.B cs.size hne, .inl rfl, .inl rfl, ?_⟩
        all_goals (unfold World.freeze; rw [if_neg (by decide)])
        · simp
        · simp
          exact hlt
      have hs := hu.stp hH.own
      have hnew := freeze_heap w bi.B cs.size e3
      have cell : ∀ (a : Addr) u, w.cell? a = some u → (w.freeze ⟨bi.B, cs.size, none⟩ 1).cell? a = some u := by
        intro a u hc
        by_cases hab : a.block = bi.B
        · simp only [World.cell?, hab, hnew, e3] at hc ⊢
          exact hc
        · have := freeze_other w bi.B cs.size hab
          simpa [World.cell?, this] using hc
      have hbr' : BRel (X.set r bi) (w.freeze ⟨bi.B, cs.size, none⟩ 1) bi (.rows g q.1 q.2) := by
        have hfz : Frz bi.cs (if lo == hi then (cs.size, cs.size + 1) else (min lo cs.size, max hi (cs.size + 1))).1 (if lo == hi then (cs.size, cs.size + 1) else (min lo cs.size, max hi (cs.size + 1))).2 := by
          by_cases hlh : lo = hi
          · subst hlh; simp only [beq_self_eq_true, if_true]; exact .inr (by omega)
          · have : (lo == hi) = false := by simpa using hlh
            rw [this]
            simp only [Bool.false_eq_true, if_false]
            rcases e5 with h | h
            · exact absurd h hlh
            · exact .inr (by omega)
        refine .rows e1 e2 hnew e4 hfz e6 e7 (fun i row j c a b => ?_)
        obtain ⟨u, k1, k2, k3⟩ := e8 i row j c a b
        exact ⟨u, cell _ _ k1, k2, k3.step hH hs⟩
      have hh := hu.hrel hH hbr'
      have hset : H.set r (.rows g q.1 q.2) = H := by
        apply List.ext_getElem?
        intro k
        by_cases hk : r = k
        · subst hk
          rw [List.getElem?_set_self (List.getElem?_eq_some_iff.1 hblk).1, hblk]
        · rw [List.getElem?_set_ne hk]
      rw [hset] at hh
      refine ⟨_, _, ?_, (VRel.slice h1 h2 h3 h4 : VRel X w (.slice r g i n) _).step hH hs, hh, hs⟩
      have hsh : w.shape? bi.B = some (el, cs.size) := by unfold World.shape?; rw [e3]
      simp [convert, run_underlying hd, run_underlying he, markStringish, hsh]

theorem ofstr_ok {X : Ctx} {H : Heap} {w : World} (hH : HRel X H w) {P : Program} {src dst e : TypeId} (s : ByteArray) (hs : P.underlying src = some .string) (hd : P.underlying dst = some (.slice e)) (he : P.underlying e = some (.int .u8)) :
    ∃ v' w' X', (convert src dst (.string s)).run P w = .ok v' w' ∧ VRel X' w' (.slice H.length 0 0 s.data.toList.length) v' ∧ HRel X' (H ++ [.rows 0 1 (s.data.toList.map fun b => [.int .u8 b.toNat])]) w' ∧ Stp X w X' w' := by
  have hrun := run_bytes_of_string w src dst e s hs hd he
  have hge := grownCap_ge w s.size 0 e
  generalize grownCap w s.size 0 e = cap at hrun hge
  have hl : ∀ row ∈ s.data.toList.map (fun b => [AV.int .u8 b.toNat]), row.length = 1 := by
    intro row hr; obtain ⟨b, _, rfl⟩ := List.mem_map.1 hr; rfl
  have hsize : s.size = s.data.toList.length := by simp
  have hv : VRels X w (s.data.toList.map fun b => [AV.int .u8 b.toNat]).flatten (s.data.toList.map fun b => Value.int .u8 b.toNat) := by
    rw [flatten_ones]
    refine ⟨by simp, fun i c v hc hv => ?_⟩
    simp only [List.getElem?_map, Option.map_eq_some_iff] at hc hv
    obtain ⟨b, hb, rfl⟩ := hc
    obtain ⟨b', hb', rfl⟩ := hv
    rw [hb] at hb'
    cases hb'
    exact .int
  have hok : okRow (s.data.toList.map fun b => [AV.int .u8 b.toNat]).flatten = true := okRow_all (by intro row hr; obtain ⟨b, _, rfl⟩ := List.mem_map.1 hr; rfl)
  have hrow : bytesRow s cap = (s.data.toList.map (fun b => Value.int .u8 b.toNat) ++ List.replicate (cap - s.size) (Value.int .u8 0)).toArray := by
    apply Array.ext'
    simp [bytesRow]
  obtain ⟨X', bi, k1, k2, k3, k4, k5, k6, k7, k8⟩ := new_ok hH (w1 := w.drew) ⟨w.drawn + 1, rfl⟩ e hl hv hok (List.replicate (cap - s.size) (Value.int .u8 0))
    (lo := (bytesRow s cap).size) (hi := (bytesRow s cap).size + 1) (by
      refine .inr ?_
      rw [hrow]
      simp only [List.size_toArray, List.length_append]
      omega)
  rw [← hrow] at k7 k8
  refine ⟨_, _, X', hrun, ?_, k7, k8⟩
  rw [hsize]
  refine .slice k1 (by omega) (by omega) (fun _ => ⟨fun _ => by rw [k3, k4]; simp, ?_⟩)
  rw [k4, k5, k6]
  simp
  omega

theorem bytesOf_some {rs : List Row} {s : List UInt8} (h : bytesOf rs = some s) : ∃ ns : List Int, rs = ns.map (fun n => [AV.int .u8 n]) ∧ s = ns.map (fun n => UInt8.ofNat n.toNat) := by
  induction rs generalizing s with
  | nil => simp [bytesOf] at h; exact ⟨[], rfl, h.symm ▸ rfl⟩
  | cons r rest ih =>
    unfold bytesOf at h
    split at h
    · rename_i heq; cases heq
    · rename_i n rest' heq
      cases heq
      simp only [Option.bind_eq_some_iff, Option.some.injEq] at h
      obtain ⟨l, h1, rfl⟩ := h
      obtain ⟨ns, rfl, rfl⟩ := ih h1
      exact ⟨n :: ns, rfl, rfl⟩
    · cases h

theorem foldl_push : ∀ (ns : List Int) (r : ByteArray), (ns.foldl (fun (r : ByteArray) n => r.push (UInt8.ofNat n.toNat)) r).data.toList = r.data.toList ++ ns.map (fun n => UInt8.ofNat n.toNat)
  | [], r => by simp
  | n :: ns, r => by
    rw [List.foldl_cons, foldl_push ns]
    simp

theorem tostr_ok {X : Ctx} {H : Heap} {w : World} (hH : HRel X H w) {P : Program} {src dst e : TypeId} {c : AV} {v : Value} (hv : VRel X w c v) (hs : P.underlying src = some (.slice e)) (he : P.underlying e = some (.int .u8)) (hd : P.underlying dst = some .string)
    (hnot : ∀ s, c ≠ .str s) {rs : List Row} (hel : elems H c = some rs) {s : List UInt8} (hb : bytesOf rs = some s) :
    ∃ v', (convert src dst v).run P w = .ok v' w ∧ VRel X w (.str s) v' := by
  obtain ⟨ns, rfl, rfl⟩ := bytesOf_some hb
  obtain ⟨h1, h2, h3⟩ := elems_ok hH hv hel P (sz := 1) (by intro row hr; obtain ⟨b, _, rfl⟩ := List.mem_map.1 hr; rfl)
  obtain ⟨vs, k1, k2, _⟩ := h3 _ (Nat.le_refl _)
  rw [List.take_length, flatten_ones] at k2
  have hvs : vs = ns.map (Value.int .u8) := by
    apply List.ext_getElem?
    intro i
    by_cases hi : i < vs.length
    · have hi' : i < ns.length := by have := k2.1; simp at this; omega
      have hr := k2.2 i (.int .u8 ns[i]) vs[i] (by simp [hi']) (by simp [hi])
      simp only [List.getElem?_eq_getElem hi, List.getElem?_map, List.getElem?_eq_getElem hi', Option.map_some, Option.some.injEq]
      generalize vs[i] = u at hr
      cases hr
      rfl
    · have hi' : ¬ i < ns.length := by have := k2.1; simp at this; omega
      rw [List.getElem?_eq_none (by omega), List.getElem?_eq_none (by simp; omega)]
  subst hvs
  have slice : ∀ a n cap, v = .slice a n cap → ∃ v', (convert src dst v).run P w = .ok v' w ∧ VRel X w (.str (ns.map fun n => UInt8.ofNat n.toNat)) v' := by
    rintro a n cap rfl
    rw [run_convert_bytes_string w src dst e a n cap hs he hd]
    have hn : n = ns.length := by
      simp [Builtin.lenOf] at h1
      exact h1
    subst hn
    cases a with
    | none =>
      have : ns = [] := by
        simp [Builtin.firstCells] at k1
        exact k1
      subst this
      exact ⟨.string .empty, by simp [Conv.bytesToString], .str rfl⟩
    | some a =>
      simp only [List.length_map, Builtin.firstCells, Nat.mul_one] at k1
      rw [run_bytesToString w a ns.length cap ns k1]
      exact ⟨_, rfl, .str (by rw [foldl_push]; rfl)⟩
  cases hv <;> first | exact slice _ _ _ rfl | (simp only [elems, reduceCtorEq] at hel) | skip
  exact absurd rfl (hnot _)

/-! ### slices -/
theorem natOf_ok {X : Ctx} {w : World} {P : Program} {d n y : Nat} {x : Option AV} {vx : Option Value} (hx : ∀ c, x = some c → ∃ v, vx = some v ∧ VRel X w c v) (h : natOf d x = some n) (hy : n ≤ y) (code : BoundsCode) (c : AV) (he : x = some c) :
    ∃ v, vx = some v ∧ (Instr.sliceBound v y code).run P w = .ok n w := by
  obtain ⟨v, h1, h2⟩ := hx c he
  subst he
  unfold natOf at h
  split at h
  · rename_i heq; cases heq
  · rename_i k m heq
    cases heq
    unfold req at h
    split at h
    · rename_i h0
      cases h
      cases h2
      exact ⟨_, h1, run_sliceBound w k m y code h0 (by omega)⟩
    · cases h
  · cases h

/-- The optional bounds, side by side. -/
def ORel (X : Ctx) (w : World) (x : Option AV) (v : Option Value) : Prop :=
  match x, v with
  | none, none => True
  | some c, some v => VRel X w c v
  | _, _ => False

theorem ORel.none_iff {X : Ctx} {w : World} {x : Option AV} {v : Option Value} (h : ORel X w x v) : x = none ↔ v = none := by
  cases x <;> cases v <;> simp_all [ORel]

theorem bound_ok {X : Ctx} {w : World} {P : Program} {d n y : Nat} {x : Option AV} {vx : Option Value} (hx : ORel X w x vx) (h : natOf d x = some n) (hy : n ≤ y) (code : BoundsCode) :
    (x = none ∧ vx = none ∧ n = d) ∨ ∃ v, vx = some v ∧ x ≠ none ∧ (Instr.sliceBound v y code).run P w = .ok n w := by
  cases x with
  | none => cases vx with
    | none => left; simp [natOf] at h; exact ⟨rfl, rfl, h.symm⟩
    | some v => exact absurd hx (by simp [ORel])
  | some c => cases vx with
    | none => exact absurd hx (by simp [ORel])
    | some v =>
      right
      obtain ⟨v', h1, h2⟩ := natOf_ok (P := P) (x := some c) (vx := some v) (fun c' hc => by cases hc; exact ⟨v, rfl, hx⟩) h hy code c rfl
      cases h1
      exact ⟨v, rfl, by simp, h2⟩

theorem bounds_ok {X : Ctx} {w : World} {P : Program} (isS : Bool) {len cap l h m : Nat} {lo hi mx : Option AV} {vlo vhi vmx : Option Value} (h1 : ORel X w lo vlo) (h2 : ORel X w hi vhi) (h3 : ORel X w mx vmx)
    (hl : natOf 0 lo = some l) (hh : natOf len hi = some h) (hm : natOf len mx = some m) (a1 : l ≤ h) (a2 : h ≤ m) (a3 : m ≤ len) (hc : len ≤ cap) (hmx : mx ≠ none → hi ≠ none) :
    ∃ m', (Instr.sliceBounds isS len cap vlo vhi vmx).run P w = .ok (l, h, m') w ∧ m ≤ m' ∧ m' ≤ cap := by
  rcases bound_ok (P := P) h1 hl a1 .sliceB with ⟨e1, e2, e3⟩ | ⟨v1, e1, e2, e3⟩
  all_goals rcases bound_ok (P := P) h3 hm (Nat.le_trans a3 hc) (if isS then .slice3Acap else .slice3Alen) with ⟨f1, f2, f3⟩ | ⟨v3, f1, f2, f3⟩
  all_goals rcases bound_ok (P := P) h2 hh (show h ≤ cap by omega) (if isS then .sliceAcap else .sliceAlen) with ⟨g1, g2, g3⟩ | ⟨v2, g1, g2, g3⟩
  all_goals (try (exact absurd g1 (hmx f2)))
  · subst e2 f2 g2 e3 g3; exact ⟨cap, by simp [Instr.sliceBounds], by omega, Nat.le_refl _⟩
  · subst e2 f2 g1 e3; exact ⟨cap, by simp [Instr.sliceBounds, g3], by omega, Nat.le_refl _⟩
  · obtain ⟨v2', q1, q2⟩ : ∃ v2', vhi = some v2' ∧ (Instr.sliceBound v2' m .slice3B).run P w = .ok h w := by
      rcases bound_ok (P := P) h2 hh a2 .slice3B with ⟨q1, _, _⟩ | ⟨v2', q1, _, q3⟩
      · exact absurd q1 (hmx f2)
      · exact ⟨v2', q1, q3⟩
    subst e2 f1 q1 e3; exact ⟨m, by simp [Instr.sliceBounds, f3, q2], Nat.le_refl _, by omega⟩
  · subst e1 f2 g2 g3; exact ⟨cap, by simp [Instr.sliceBounds, e3], by omega, Nat.le_refl _⟩
  · subst e1 f2 g1; exact ⟨cap, by simp [Instr.sliceBounds, g3, e3], by omega, Nat.le_refl _⟩
  · obtain ⟨v2', q1, q2⟩ : ∃ v2', vhi = some v2' ∧ (Instr.sliceBound v2' m .slice3B).run P w = .ok h w := by
      rcases bound_ok (P := P) h2 hh a2 .slice3B with ⟨q1, _, _⟩ | ⟨v2', q1, _, q3⟩
      · exact absurd q1 (hmx f2)
      · exact ⟨v2', q1, q3⟩
    obtain ⟨v1', r1, r2⟩ : ∃ v1', vlo = some v1' ∧ (Instr.sliceBound v1' h .slice3C).run P w = .ok l w := by
      rcases bound_ok (P := P) h1 hl a1 .slice3C with ⟨q1, _, _⟩ | ⟨v1', q1, _, q3⟩
      · exact absurd q1 e2
      · exact ⟨v1', q1, q3⟩
    subst f1 q1 r1; exact ⟨m, by simp [Instr.sliceBounds, f3, q2, r2], Nat.le_refl _, by omega⟩


theorem ORel.some_iff {X : Ctx} {w : World} {x : Option AV} {v : Option Value} (h : ORel X w x v) : x.isSome = v.isSome := by
  cases x <;> cases v <;> simp_all [ORel]

theorem slc_slice {X : Ctx} {H : Heap} {w : World} (hH : HRel X H w) {P : Program} {t e : TypeId} {sz : Nat} {x c : AV} {vx : Value} {lo hi mx : Option AV} {vlo vhi vmx : Option Value} (hx : VRel X w x vx) (h1 : ORel X w lo vlo)
    (h2 : ORel X w hi vhi) (h3 : ORel X w mx vmx) (hu : P.underlying t = some (.slice e)) (hs : (sizeOf e).run P w = .ok sz w) (he : slcAV H sz x lo hi mx = some c) :
    ∃ v', (Instr.sliceAt t vx vlo vhi vmx).run P w = .ok v' w ∧ VRel X w c v' := by
  have hmx : (mx.isSome = true → hi.isSome = true) → mx ≠ none → hi ≠ none := by
    intro h a b
    subst b
    cases mx with
    | none => exact a rfl
    | some _ => simp at h
  have run : ∀ a n cap l h m, vx = .slice a n cap → (Instr.sliceBounds true n cap vlo vhi vmx).run P w = .ok (l, h, m) w →
      (Instr.sliceAt t vx vlo vhi vmx).run P w = .ok (.slice (if m = l then a else a.map (·.add (l * sz))) (h - l) (m - l)) w := by
    rintro a n cap l h m rfl hb
    simp only [Instr.sliceAt, Sem.run_bind, run_underlying hu, Result.andThen_ok, Instr.slice, hb, hs, Sem.run_pure]
  cases hx <;> simp only [slcAV, Option.bind_eq_some_iff, reduceCtorEq] at he
  case nils =>
    obtain ⟨l, hl, h, hh, m, hm, he⟩ := he
    unfold req at he
    split at he
    case isFalse => cases he
    rename_i hq
    cases he
    obtain ⟨rfl, rfl, rfl, a4⟩ := hq
    obtain ⟨m', hr, _, hm'⟩ := bounds_ok true (P := P) h1 h2 h3 hl hh hm (Nat.le_refl _) (Nat.le_refl _) (Nat.le_refl _) (Nat.le_refl _) (hmx a4)
    have hm0 : m' = 0 := by omega
    subst hm0
    exact ⟨_, run none 0 0 0 0 0 rfl hr, .nils⟩
  case islice0 =>
    obtain ⟨l, hl, h, hh, m, hm, he⟩ := he
    unfold req at he
    split at he
    case isFalse => cases he
    rename_i hq
    cases he
    obtain ⟨a1, a2, a3, a4, a5⟩ := hq
    obtain ⟨m', hr, b1, b2⟩ := bounds_ok true h1 h2 h3 hl hh hm a1 a2 a3 (Nat.le_refl 0) (hmx a4)
    have e1 : m' = 0 := by omega
    have e2 : l = 0 := by simp at a3; omega
    have e3 : h = 0 := by simp at a3; omega
    subst e1 e2 e3
    exact ⟨_, run none 0 0 0 0 0 rfl hr, .islice0⟩
  case islice =>
    rename_i rws n a cap s' f hn hcap hlr hcl hv ho
    obtain ⟨l, hl, h, hh, m, hm, he⟩ := he
    unfold req at he
    split at he
    case isFalse => cases he
    rename_i hq
    cases he
    obtain ⟨a1, a2, a3, a4, a5⟩ := hq
    rw [hn] at hh hm a3
    obtain ⟨m', hr, b1, b2⟩ := bounds_ok true h1 h2 h3 hl hh hm a1 a2 a3 hcap (hmx a4)
    refine ⟨_, run (some a) n cap l h m' rfl hr, ?_⟩
    have hlen : ((rws.drop l).take (h - l)).length = h - l := by simp; omega
    by_cases hml : m' = l
    · have hhl : h - l = 0 := by omega
      have : (rws.drop l).take (h - l) = [] := by rw [hhl]; rfl
      rw [this, hml, hhl, if_pos rfl]
      exact .islice (s := s') f rfl (by omega) (by simp) (by simp) (by simp) (by simp)
    · rw [if_neg hml]
      by_cases h0 : 0 < n
      · have hs' : s' = sz := by
          cases rws with
          | nil => simp at hn; omega
          | cons r0 rest => rw [← hlr r0 (by simp), a5 r0 (by simp)]
        subst hs'
        obtain ⟨o1, o2, o3⟩ := ho h0
        have ha : a = ⟨a.block, a.off, none⟩ := by cases a; simp at o2; simp [o2]
        simp only [Option.map_some]
        rw [ha, addr_add]
        have hget : ∀ i row, ((rws.drop l).take (h - l))[i]? = some row → rws[l + i]? = some row := by
          intro i row hi
          rw [List.getElem?_take] at hi
          split at hi
          · rw [List.getElem?_drop] at hi; exact hi
          · cases hi
        refine .islice (fun i j => f (l + i) j) hlen (by omega) (fun row hr => hlr row (List.mem_of_mem_drop (List.mem_of_mem_take hr))) (fun i row j c q1 q2 => ?_) (fun i row j c q1 q2 => hv _ row j c (hget i row q1) q2) (fun _ => ⟨o1, rfl, o3⟩)
        have := hcl _ row j c (hget i row q1) q2
        simp only
        rwa [Nat.add_mul, ← Nat.add_assoc] at this
      · have : h - l = 0 := by omega
        rw [this]
        exact .islice (s := s') f rfl (by omega) (by simp) (by simp) (by simp) (by simp)
  case slice =>
    rename_i r g ix n a cap bi hb hg hcap ha
    obtain ⟨l, hl, h, hh, m, hm, ⟨ss, rs⟩, hblk, he⟩ := he
    unfold req at he
    split at he
    case isFalse => cases he
    rename_i hq
    cases he
    obtain ⟨a1, a2, a3, a4, a5⟩ := hq
    obtain ⟨m', hr, b1, b2⟩ := bounds_ok true h1 h2 h3 hl hh hm a1 a2 a3 hcap (hmx a4)
    refine ⟨_, run (some a) n cap l h m' rfl hr, ?_⟩
    have hbs := Heap.blkOf_some hblk
    simp only at a5 hbs
    subst a5
    obtain ⟨⟨hgg, hss⟩, _⟩ := (hH.at hbs hb).cellsAt
    subst hss
    obtain ⟨c1, c2⟩ := ha hgg
    have hfit : bi.o + (ix + l + (m' - l)) * bi.sz ≤ bi.cs := by
      refine Nat.le_trans ?_ c2
      have : (ix + l + (m' - l)) * bi.sz ≤ (ix + cap) * bi.sz := Nat.mul_le_mul_right _ (by omega)
      omega
    by_cases hml : m' = l
    · rw [if_pos hml]
      exact .slice hb hg (by omega) (fun _ => ⟨fun h => by omega, hfit⟩)
    · rw [if_neg hml]
      have := c1 (by omega)
      subst this
      simp only [Option.map_some, addr_add]
      exact .slice hb hg (by omega) (fun _ => ⟨fun _ => by rw [Nat.add_mul, Nat.add_assoc], hfit⟩)


theorem slc_str {X : Ctx} {w : World} {P : Program} {t : TypeId} {c : AV} {s : List UInt8} {vx : Value} {lo hi : Option AV} {vlo vhi : Option Value} (hx : VRel X w (.str s) vx) (h1 : ORel X w lo vlo)
    (h2 : ORel X w hi vhi) (hu : P.underlying t = some .string) (he : sslcAV s lo hi = some c) :
    ∃ v', (Instr.sliceAt t vx vlo vhi none).run P w = .ok v' w ∧ VRel X w c v' := by
  cases hx
  rename_i bs hbs
  simp only [sslcAV, Option.bind_eq_some_iff] at he
  obtain ⟨l, hl, h, hh, he⟩ := he
  unfold req at he
  split at he
  case isFalse => cases he
  rename_i hq
  cases he
  obtain ⟨a1, a2⟩ := hq
  have hsz : s.length = bs.size := by rw [← hbs]; simp
  rw [hsz] at hh a2
  obtain ⟨m', hr, _, _⟩ := bounds_ok false (P := P) (len := bs.size) (cap := bs.size) (m := bs.size) (mx := none) (vmx := none) h1 h2 trivial hl hh rfl a1 a2 (Nat.le_refl _) (Nat.le_refl _) (fun h => absurd rfl h)
  refine ⟨.string (bs.extract l h), ?_, .str ?_⟩
  · simp only [Instr.sliceAt, Sem.run_bind, run_underlying hu, Result.andThen_ok, Instr.slice, Option.isSome_none, Bool.false_eq_true, if_false, hr, Sem.run_pure]
  · rw [← hbs]
    simp [ByteArray.data_extract, List.extract_eq_take_drop]

/-! ### addresses and parts -/
theorem iaddr_ok {X : Ctx} {H : Heap} {w : World} (hH : HRel X H w) {P : Program} {t e : TypeId} {sz : Nat} {x ix c : AV} {vx vix : Value} (hx : VRel X w x vx) (hi : VRel X w ix vix) (hu : P.underlying t = some (.slice e)) (hs : (sizeOf e).run P w = .ok sz w)
    {n : Int} (hn : intOf ix = some n) (he : iaddrAV H sz x n = some c) : ∃ v', (Instr.indexAt t vx vix).run P w = .ok v' w ∧ VRel X w c v' := by
  cases ix <;> simp only [intOf, reduceCtorEq, Option.some.injEq] at hn
  subst hn
  cases hi
  cases hx <;> simp only [iaddrAV, reduceCtorEq] at he
  case slice =>
    rename_i k m r g i len a cap bi hb hg hcap ha
    unfold req at he
    split at he
    case isFalse => cases he
    rename_i hq
    simp only [Option.bind_eq_some_iff] at he
    obtain ⟨row, hrow, he⟩ := he
    split at he
    case isFalse => cases he
    rename_i hrl
    cases he
    obtain ⟨s, rs, q1, q2⟩ := Heap.row_some hrow
    obtain ⟨⟨hgg, hss⟩, _, hl, _⟩ := (hH.at q1 hb).cellsAt
    have hbs : bi.sz = sz := by rw [← hl row (List.mem_of_getElem? q2)]; exact hrl
    obtain ⟨c1, _⟩ := ha hgg
    have := c1 (by omega)
    subst this
    refine ⟨_, by simp [Instr.indexAt, asIntOf, run_underlying hu, hq, hs]; rfl, ?_⟩
    rw [addr_add]
    refine .ptr hb hg (fun _ => ?_)
    rw [← hbs, Nat.add_zero, Nat.add_mul, Nat.add_assoc]
  case islice0 =>
    rename_i k m
    unfold req at he
    split at he
    · rename_i hq; simp at hq; omega
    · cases he
  case islice =>
    rename_i k m rws len a cap s f hlen hcap hl hc hv ho
    unfold req at he
    split at he
    case isFalse => cases he
    rename_i hq
    simp only [Option.bind_eq_some_iff] at he
    obtain ⟨row, hrow, he⟩ := he
    split at he
    case isFalse => cases he
    rename_i hrl
    cases he
    have hs' : s = sz := by rw [← hl row (List.mem_of_getElem? hrow)]; exact hrl
    subst hs'
    rw [hlen] at hq
    obtain ⟨o1, o2, o3⟩ := ho (by omega)
    have hae : a = ⟨a.block, a.off, none⟩ := by cases a; simp at o2; simp [o2]
    refine ⟨_, by simp [Instr.indexAt, asIntOf, run_underlying hu, hq, hs]; rfl, ?_⟩
    rw [hae, addr_add]
    exact .iptr f hl hc hv o1 o3

theorem faddr_ok {X : Ctx} {w : World} {P : Program} {t : TypeId} {fields : Array Field} {k : Nat} {f : Field} {x c : AV} {vx : Value} (hx : VRel X w x vx) (hu : P.underlying t = some (.struct fields)) (hf : fields[k]? = some f)
    {n : Nat} (hs : (sizeOf f.type).run P w = .ok n w) (hn : 0 < n) (he : faddrAV f.offset x = some c) : ∃ v', (Instr.fieldAt t vx k).run P w = .ok v' w ∧ VRel X w c v' := by
  have hn0 : n ≠ 0 := by omega
  cases hx <;> simp only [faddrAV, reduceCtorEq, Option.some.injEq] at he
  case ptr =>
    rename_i r g i j a bi hb hg ha
    subst he
    refine ⟨.pointer (some (a.add f.offset)), by simp [Instr.fieldAt, run_underlying hu, hf, Instr.sureAddr, fieldPlace, hs, hn0], .ptr hb hg (fun e => ?_)⟩
    rw [ha e, addr_add, Nat.add_assoc]
  case iptr =>
    rename_i rws i j b o s g hl hc hv ho hb
    subst he
    refine ⟨_, by simp [Instr.fieldAt, run_underlying hu, hf, Instr.sureAddr, fieldPlace, hs, hn0]; rfl, ?_⟩
    rw [addr_add, Nat.add_assoc]
    exact .iptr g hl hc hv ho hb

theorem aaddr_ok {X : Ctx} {w : World} {P : Program} {t e : TypeId} {len sz : Nat} {x ix c : AV} {vx vix : Value} (hx : VRel X w x vx) (hi : VRel X w ix vix) (hu : P.underlying t = some (.array len e)) (hs : (sizeOf e).run P w = .ok sz w)
    {n : Int} (hn : intOf ix = some n) (he : aaddrAV len sz x n = some c) : ∃ v', (Instr.indexAt t vx vix).run P w = .ok v' w ∧ VRel X w c v' := by
  cases ix <;> simp only [intOf, reduceCtorEq, Option.some.injEq] at hn
  subst hn
  cases hi
  simp only [aaddrAV] at he
  unfold req at he
  split at he
  case isFalse => cases he
  rename_i hq
  cases hx <;> simp only [reduceCtorEq, Option.some.injEq] at he
  case ptr =>
    rename_i k m r g i j a bi hb hg ha
    subst he
    refine ⟨.pointer (some (a.add (m.toNat * sz))), by simp [Instr.indexAt, asIntOf, run_underlying hu, Instr.sureAddr, hq, hs], .ptr hb hg (fun e => ?_)⟩
    rw [ha e, addr_add, Nat.add_assoc]
  case iptr =>
    rename_i k m rws i j b o s g hl hc hv ho hb
    subst he
    refine ⟨_, by simp [Instr.indexAt, asIntOf, run_underlying hu, Instr.sureAddr, hq, hs]; rfl, ?_⟩
    rw [addr_add, Nat.add_assoc]
    exact .iptr g hl hc hv ho hb

theorem part_ok {X : Ctx} {w : World} {P : Program} {t : TypeId} {cs : List AV} {vs : List Value} (hc : VRels X w cs vs) {off : Nat} {agg : Option Nat} {c : AV} (he : cut cs off agg = some c)
    (ht : (agg = none ∧ (isAgg t).run P w = .ok false w) ∨ (∃ n, agg = some n ∧ (isAgg t).run P w = .ok true w ∧ (sizeOf t).run P w = .ok n w)) :
    ∃ v', (part t vs.toArray off).run P w = .ok v' w ∧ VRel X w c v' := by
  rcases ht with ⟨rfl, ht⟩ | ⟨n, rfl, ht, hs⟩
  · simp only [cut] at he
    have hi := (List.getElem?_eq_some_iff.1 he).1
    have hl := hc.1
    obtain ⟨v, hv⟩ : ∃ v, vs[off]? = some v := ⟨vs[off]'(by omega), by simp⟩
    exact ⟨v, by simp [part, ht, hv], hc.2 off c v he hv⟩
  · simp only [cut] at he
    unfold req at he
    split at he
    case isFalse => cases he
    cases he
    have h2 := (hc.drop off).take n
    refine ⟨.agg ((vs.drop off).take n).toArray, ?_, .agg h2.1 h2.2⟩
    unfold part
    rw [Sem.run_bind, ht, Result.andThen_ok, if_pos rfl, Sem.run_bind, hs, Result.andThen_ok, Sem.run_pure]
    congr 2
    apply Array.ext'
    simp [List.extract_eq_take_drop]

theorem fld_ok {X : Ctx} {w : World} {P : Program} {t : TypeId} {fields : Array Field} {k : Nat} {f : Field} {cs : List AV} {vx : Value} (hx : VRel X w (.agg cs) vx) (hu : P.underlying t = some (.struct fields)) (hf : fields[k]? = some f)
    {agg : Option Nat} {c : AV} (he : cut cs f.offset agg = some c)
    (ht : (agg = none ∧ (isAgg f.type).run P w = .ok false w) ∨ (∃ n, agg = some n ∧ (isAgg f.type).run P w = .ok true w ∧ (sizeOf f.type).run P w = .ok n w)) :
    ∃ v', (Instr.field t vx k).run P w = .ok v' w ∧ VRel X w c v' := by
  cases hx
  rename_i vs hl hc
  obtain ⟨v', h1, h2⟩ := part_ok (P := P) ⟨hl, hc⟩ he ht
  exact ⟨v', by simp [Instr.field, run_underlying hu, hf, asAgg, h1], h2⟩

theorem aidx_ok {X : Ctx} {w : World} {P : Program} {t e : TypeId} {len sz : Nat} {cs : List AV} {ix c : AV} {vx vix : Value} (hx : VRel X w (.agg cs) vx) (hi : VRel X w ix vix) (hu : P.underlying t = some (.array len e)) (hs : (sizeOf e).run P w = .ok sz w)
    {n : Int} (hn : intOf ix = some n) (h0 : 0 ≤ n ∧ n < (len : Int)) {agg : Option Nat} (he : cut cs (n.toNat * sz) agg = some c)
    (ht : (agg = none ∧ (isAgg e).run P w = .ok false w) ∨ (∃ n, agg = some n ∧ (isAgg e).run P w = .ok true w ∧ (sizeOf e).run P w = .ok n w)) :
    ∃ v', (Instr.index t vx vix).run P w = .ok v' w ∧ VRel X w c v' := by
  cases ix <;> simp only [intOf, reduceCtorEq, Option.some.injEq] at hn
  subst hn
  cases hi
  cases hx
  rename_i vs hl hc
  obtain ⟨v', h1, h2⟩ := part_ok (P := P) ⟨hl, hc⟩ he ht
  exact ⟨v', by simp [Instr.index, asIntOf, run_underlying hu, h0, hs, h1], h2⟩

theorem sidx_ok {X : Ctx} {w : World} {P : Program} {t : TypeId} {s : List UInt8} {ix : AV} {vx vix : Value} (hx : VRel X w (.str s) vx) (hi : VRel X w ix vix) (hu : P.underlying t = some .string)
    {n : Int} (hn : intOf ix = some n) (h0 : 0 ≤ n) {b : UInt8} (hb : s[n.toNat]? = some b) :
    (Instr.index t vx vix).run P w = .ok (.int .u8 b.toNat) w := by
  cases ix <;> simp only [intOf, reduceCtorEq, Option.some.injEq] at hn
  subst hn
  cases hi
  cases hx
  rename_i k m bs hbs
  have hb' : bs[m.toNat]? = some b := by
    have h1 := (List.getElem?_eq_some_iff.1 hb).1
    have h2 := (List.getElem?_eq_some_iff.1 hb).2
    subst hbs
    have h3 : m.toNat < bs.size := by simpa using h1
    rw [getElem?_pos bs m.toNat h3]
    congr 1
  simp [Instr.index, asIntOf, run_underlying hu, h0, hb']

end Go.Ab
