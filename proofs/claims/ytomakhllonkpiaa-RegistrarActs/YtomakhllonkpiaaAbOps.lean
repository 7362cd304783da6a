/-
  The other operations under the relation: copy, make, new variables, slices, addresses, arithmetic, conversions.
  Conditions: none.
-/
import Derived.Test.YtomakhllonkpiaaAbGrow
import Derived.Laws.Slices
import Derived.Laws.Bits
namespace Go.Ab

theorem flat_take {rs : List Row} {s : Nat} (hl : ∀ row ∈ rs, row.length = s) (i : Nat) : (rs.take i).flatten = rs.flatten.take (i * s) := by
  induction rs generalizing i with
  | nil => simp
  | cons r rest ih =>
    have hr : r.length = s := hl r (by simp)
    cases i with
    | zero => simp
    | succ i =>
      rw [List.take_succ_cons, List.flatten_cons, ih (fun x hx => hl x (by simp [hx])), List.flatten_cons, Nat.succ_mul, Nat.add_comm, ← hr, List.take_length_add_append]

theorem flat_drop {rs : List Row} {s : Nat} (hl : ∀ row ∈ rs, row.length = s) (i : Nat) : (rs.drop i).flatten = rs.flatten.drop (i * s) := by
  induction rs generalizing i with
  | nil => simp
  | cons r rest ih =>
    have hr : r.length = s := hl r (by simp)
    cases i with
    | zero => simp
    | succ i =>
      rw [List.drop_succ_cons, ih (fun x hx => hl x (by simp [hx])), List.flatten_cons, Nat.succ_mul, Nat.add_comm, ← hr, List.drop_length_add_append]

theorem set_self {α : Type} (l : List α) (i : Nat) (x : α) (h : l[i]? = some x) : l.set i x = l := by
  apply List.ext_getElem?
  intro j
  by_cases e : i = j
  · subst e
    have := (List.getElem?_eq_some_iff.1 h).1
    simp [this]
    exact (List.getElem?_eq_some_iff.1 h).2.symm
  · rw [List.getElem?_set_ne e]

theorem copy_ok {X : Ctx} {H H' : Heap} {w : World} (hH : HRel X H w) {d s c : AV} {vd vs : Value} (hd : VRel X w d vd) (hs : VRel X w s vs) {P : Program} {t t2 ty e : TypeId} {sz : Nat}
    (hu : P.underlying t = some (.slice e)) (hse : (sizeOf e).run P w = .ok sz w) (he : copyAV H sz d s = some (c, H')) :
    ∃ v' w' X', (Builtin.copy_ #[t, t2] ty #[vd, vs]).run P w = .ok v' w' ∧ VRel X' w' c v' ∧ HRel X' H' w' ∧ Stp X w X' w' := by
  simp only [copyAV, Option.bind_eq_some_iff] at he
  obtain ⟨news, hn, he⟩ := he
  unfold req at he
  split at he
  case isFalse => cases he
  rename_i hsz
  obtain ⟨hlen, hok, hcells⟩ := elems_ok hH hs hn P hsz
  have zero : ∀ base n cap, vd = .slice base n cap → min news.length n = 0 → (Builtin.copy_ #[t, t2] ty #[vd, vs]).run P w = .ok (.int .i64 0) w := by
    rintro base n cap rfl hm
    obtain ⟨nv, h1, h2, h3⟩ := hcells 0 (Nat.zero_le _)
    have : nv = [] := List.eq_nil_of_length_eq_zero (by rw [← h2.1]; rfl)
    subst this
    have hm' : Nat.min news.length n = 0 := hm
    cases base <;> simp [Builtin.copy_, run_underlying hu, hlen, hse, hm', h1, storeCells, goInt]
  cases hd <;> simp only [reduceCtorEq] at he
  case nils =>
    simp only [Option.some.injEq, Prod.mk.injEq] at he
    obtain ⟨rfl, rfl⟩ := he
    exact ⟨_, w, X, zero none 0 0 rfl (by simp), .int, hH, Stp.refl _ _⟩
  case islice0 =>
    cases news <;> (simp only [Option.some.injEq, Prod.mk.injEq] at he; obtain ⟨rfl, rfl⟩ := he; exact ⟨_, w, X, zero none 0 0 rfl (by simp), .int, hH, Stp.refl _ _⟩)
  case islice =>
    rename_i rws n a cap s' f h1 h3 h4 h5 h6 h7
    cases news with
    | nil =>
      simp only [Option.some.injEq, Prod.mk.injEq] at he; obtain ⟨rfl, rfl⟩ := he
      exact ⟨_, w, X, zero _ _ _ rfl (by simp), .int, hH, Stp.refl _ _⟩
    | cons row rest =>
      cases rws with
      | nil =>
        simp only [Option.some.injEq, Prod.mk.injEq] at he; obtain ⟨rfl, rfl⟩ := he
        exact ⟨_, w, X, zero _ _ _ rfl (by simp at h1; simp [← h1]), .int, hH, Stp.refl _ _⟩
      | cons r2 rest2 => simp at he
  case slice =>
    rename_i r g ix n a cap bi hb hg hcap ha
    simp only [Option.bind_eq_some_iff] at he
    obtain ⟨⟨ss, rs⟩, hrs, he⟩ := he
    split at he
    case isFalse => cases he
    rename_i hreq
    obtain ⟨hss, hle⟩ := hreq
    have hblk := Heap.blkOf_some hrs
    simp only at hss hle hblk
    subst hss
    simp only [Option.some.injEq, Prod.mk.injEq] at he
    obtain ⟨rfl, rfl⟩ := he
    have hbr := hH.at hblk hb
    obtain ⟨⟨hgg, hszz⟩, ⟨cur, ce, lo, hi, hcur, hcsz, hfr⟩, hl, hrl, hat⟩ := hbr.cellsAt
    subst hszz
    obtain ⟨ha1, ha2⟩ := ha hgg
    by_cases hk0 : min news.length n = 0
    · refine ⟨_, w, X, zero _ _ _ rfl hk0, ?_, ?_, Stp.refl _ _⟩
      · rw [hk0]; exact .int
      · rw [hk0]
        simp only [Nat.add_zero, List.take_zero, List.append_nil, List.take_append_drop]
        rw [set_self H r _ hblk]
        exact hH
    · have hcap0 : 0 < cap := by omega
      have hae := ha1 hcap0
      subst hae
      obtain ⟨nv, h1, h2, h3⟩ := hcells (min news.length n) (Nat.min_le_left _ _)
      have hkl : ∀ x ∈ news.take (min news.length n), x.length = bi.sz := fun x hx => hsz x (List.mem_of_mem_take hx)
      have hfk := flat_len hkl
      have hlk : (news.take (min news.length n)).length = min news.length n := by simp
      rw [hlk] at hfk
      generalize hkk : min news.length n = k at *
      have hkn : k ≤ n := by omega
      have hokk : okRow (news.take k).flatten = true := by
        unfold okRow at hok ⊢
        rw [List.all_eq_true] at hok ⊢
        intro x hx
        obtain ⟨row, hr, hxr⟩ := List.mem_flatten.1 hx
        exact hok x (List.mem_flatten.2 ⟨row, List.mem_of_mem_take hr, hxr⟩)
      have hmul : k * bi.sz ≤ cap * bi.sz := Nat.mul_le_mul_right _ (by omega)
      have hmul2 : (ix + n) * bi.sz ≤ rs.length * bi.sz := Nat.mul_le_mul_right _ hle
      have hmul3 : k * bi.sz ≤ n * bi.sz := Nat.mul_le_mul_right _ hkn
      rw [Nat.add_mul] at ha2 hmul2
      have hfl := flat_len hl
      have hnl := h2.1
      have hst := run_storeCells_fr P bi.B (bi.o + ix * bi.sz) ce lo hi nv 0 cur w hcur (by rw [← hnl, hfk]; simp only [Nat.add_zero]; omega) (by rw [hcsz]; exact frz_ok hfr) h3
      simp only [Nat.add_zero] at hst
      have hu' := setRow_upd hb hcur (cur.toList.take (bi.o + ix * bi.sz) ++ nv ++ cur.toList.drop (bi.o + ix * bi.sz + nv.length)).toArray (bi' := bi) rfl (.inl rfl)
      have hsp := hu'.stp hH.own
      have hat' := cellsAt_splice hH hcur hat h2 hokk (q := ix * bi.sz) (by rw [hfk]; omega) (by omega) hsp
      have hlall : ∀ x ∈ rs.take ix ++ news.take k ++ rs.drop (ix + k), x.length = bi.sz := by
        intro x hx
        simp only [List.mem_append] at hx
        rcases hx with (h | h) | h
        · exact hl x (List.mem_of_mem_take h)
        · exact hkl x h
        · exact hl x (List.mem_of_mem_drop h)
      have hflat : (rs.take ix ++ news.take k ++ rs.drop (ix + k)).flatten = rs.flatten.take (ix * bi.sz) ++ (news.take k).flatten ++ rs.flatten.drop (ix * bi.sz + (news.take k).flatten.length) := by
        rw [List.flatten_append, List.flatten_append, flat_take hl, flat_drop hl, hfk, Nat.add_mul]
      rw [← hflat] at hat'
      refine ⟨.int .i64 k, _, _, ?_, .int, hu'.hrel hH (brel_rows hgg rfl (setRow_heap w bi.B cur _ ce _ hcur) ?_ hfr hlall ?_ hat'), hsp⟩
      · have hkk' : Nat.min news.length n = k := hkk
        simp [Builtin.copy_, run_underlying hu, hlen, hse, hkk', h1, hst, goInt]
      · simp only [List.size_toArray, List.length_append, List.length_take, List.length_drop, Array.length_toList, ← hnl, hfk]
        omega
      · have : (rs.take ix ++ news.take k ++ rs.drop (ix + k)).length = rs.length := by
          simp only [List.length_append, List.length_take, List.length_drop]
          omega
        rw [this]
        exact hrl

/-- A variable of its own. -/
theorem newVar_ok {X : Ctx} {H : Heap} {w : World} (hH : HRel X H w) (P : Program) (e : TypeId) {c : Row} {v : Value} (hc : VRels X w c v.cells.toList) (hok : okRow c = true) :
    ∃ v' w' X', (do pure (Value.pointer (some (← newVar e v))) : Sem Value).run P w = .ok v' w' ∧ VRel X' w' (.ptr H.length 0 0 0) v' ∧ HRel X' (H ++ [.rows 0 c.length [c]]) w' ∧ Stp X w X' w' := by
  obtain ⟨X', bi, h1, h2, h3, h4, h5, h6, h7, h8⟩ := new_ok hH (w1 := w) ⟨w.drawn, rfl⟩ e (rs := [c]) (s := c.length) (by simp) (vs := v.cells.toList) (by simpa using hc) (by simpa using hok) [] (lo := 0) (hi := 0) (.inl rfl)
  simp only [List.append_nil, Array.toArray_toList] at h7 h8
  refine ⟨.pointer (some ⟨w.heap.size, 0, none⟩), _, X', by simp [newVar, newRow], .ptr h1 (by omega) (fun _ => by rw [h3, h4]; simp), h7, h8⟩


theorem wrp_eq (k : IntKind) (n : Int) : wrp k n = k.wrap n := by
  cases k <;> simp [wrp, IntKind.wrap, IntKind.bits, IntKind.signed] <;> (try split) <;> omega

theorem replicate_flat (z : Row) (n : Nat) (i : Nat) (hz : 0 < z.length) (hi : i < n * z.length) : (List.replicate n z).flatten[i]? = z[i % z.length]? := by
  have hl : ∀ row ∈ List.replicate n z, row.length = z.length := by intro row hr; rw [(List.mem_replicate.1 hr).2]
  have hd : i / z.length < n := (Nat.div_lt_iff_lt_mul hz).2 hi
  have := flat_get hl (i := i / z.length) (row := z) (by simp [hd]) (Nat.mod_lt i hz)
  rw [Nat.mul_comm, Nat.div_add_mod] at this
  exact this

theorem make_ok {X : Ctx} {H H' : Heap} {w : World} (hH : HRel X H w) {l c r : AV} {vl vc : Value} (hl : VRel X w l vl) (hc : VRel X w c vc) {P : Program} {t e : TypeId} {i : TypeInfo} {z : Value} {sz bytes : Nat}
    (E : ElemOk P t e i z sz bytes) {za : Row} (hz : ∀ X w, VRels X w za z.cells.toList) (he : makeAV H za bytes l c = some (r, H')) :
    ∃ v' w' X', (Instr.makeSlice t vl vc).run P w = .ok v' w' ∧ VRel X' w' r v' ∧ HRel X' H' w' ∧ Stp X w X' w' := by
  cases l <;> simp only [makeAV, reduceCtorEq] at he
  cases c <;> simp only [reduceCtorEq] at he
  rename_i kl l kc c
  cases hl
  cases hc
  unfold req at he
  split at he
  case isFalse => cases he
  rename_i hreq
  obtain ⟨h0, hlc, hb, hok⟩ := hreq
  simp only [Option.some.injEq, Prod.mk.injEq] at he
  obtain ⟨rfl, rfl⟩ := he
  have hzl : za.length = sz := by rw [(hz X w).1]; simpa using E.zsize
  have hb' : (i.bytes : Int) * c ≤ 140737488355328 := by rw [E.hbytes, Int.mul_comm]; simpa [roomB] using hb
  have hc63 : c ≤ 9223372036854775807 := by
    have h1 : c * 1 ≤ c * (bytes : Int) := Int.mul_le_mul_of_nonneg_left (by have := E.bpos; omega) (by omega)
    simp only [roomB] at hb
    omega
  have hrun := run_make (P := P) w t e i z E.und E.info E.zero kl kc l c h0 hlc (by omega) hc63
  have hL : ∀ row ∈ List.replicate l.toNat za, row.length = sz := by intro row hr; rw [(List.mem_replicate.1 hr).2]; exact hzl
  have hmc : (madeCells z.cells (c.toNat * i.size)).toList = (List.range (c.toNat * i.size)).map (fun k => z.cells[k % z.cells.size]!) := by
    simp [madeCells]
  have hn : l.toNat * sz ≤ c.toNat * sz := Nat.mul_le_mul_right _ (by omega)
  have hvals : VRels X w (List.replicate l.toNat za).flatten ((madeCells z.cells (c.toNat * i.size)).toList.take (l.toNat * sz)) := by
    refine ⟨?_, fun k a b ha hb => ?_⟩
    · rw [flat_len hL]
      simp only [List.length_take, Array.length_toList, size_madeCells, E.hsize, List.length_replicate]
      omega
    · have hk := (List.getElem?_eq_some_iff.1 ha).1
      rw [flat_len hL, List.length_replicate] at hk
      rw [replicate_flat za l.toNat k (by rw [hzl]; exact E.pos) (by rw [hzl]; exact hk)] at ha
      rw [List.getElem?_take, if_pos hk, hmc, List.getElem?_map] at hb
      have hkr : (List.range (c.toNat * i.size))[k]? = some k := by rw [List.getElem?_range (by rw [E.hsize]; omega)]
      rw [hkr, Option.map_some] at hb
      cases hb
      have hm : k % z.cells.size < z.cells.size := Nat.mod_lt _ (by rw [E.zsize]; exact E.pos)
      refine (hz X w).2 (k % za.length) a _ ha ?_
      have e1 : za.length = z.cells.size := by rw [hzl, E.zsize]
      rw [e1]
      simp only [Array.getElem?_toList]
      rw [getElem!_pos z.cells _ hm]
      exact Array.getElem?_eq_getElem hm
  have hokr : okRow (List.replicate l.toNat za).flatten = true := by
    unfold okRow at hok ⊢
    rw [List.all_eq_true] at hok ⊢
    intro x hx
    obtain ⟨row, hr, hxr⟩ := List.mem_flatten.1 hx
    rw [(List.mem_replicate.1 hr).2] at hxr
    exact hok x hxr
  obtain ⟨X', bi, k1, k2, k3, k4, k5, k6, k7, k8⟩ := new_ok hH (w1 := w) ⟨w.drawn, rfl⟩ e (rs := List.replicate l.toNat za) (s := sz) hL
    hvals hokr ((madeCells z.cells (c.toNat * i.size)).toList.drop (l.toNat * sz)) (lo := 0) (hi := 0) (.inl rfl)
  simp only [List.take_append_drop, Array.toArray_toList] at k6 k7 k8
  have hcs : bi.cs = c.toNat * sz := by
    rw [k6]
    simp only [List.length_take, List.length_drop, Array.length_toList, size_madeCells, E.hsize]
    omega
  refine ⟨_, _, X', hrun, ?_, by rw [hzl]; exact k7, k8⟩
  refine .slice k1 (by omega) (by omega) (fun _ => ⟨fun _ => by rw [k3, k4]; simp, ?_⟩)
  rw [k4, k5, hcs]
  simp


theorem foldl_set (off : Nat) : ∀ (l : List Value) (k : Nat) (cells : Array Value), off + k + l.length ≤ cells.size →
    ((l.zipIdx k).foldl (fun (cs : Array Value) (p : Value × Nat) => cs.setIfInBounds (off + p.2) p.1) cells).toList = cells.toList.take (off + k) ++ l ++ cells.toList.drop (off + k + l.length)
  | [], k, cells, _ => by simp
  | v :: rest, k, cells, h => by
    simp only [List.length_cons] at h
    have ih := foldl_set off rest (k + 1) (cells.setIfInBounds (off + k) v) (by simp; omega)
    rw [List.zipIdx_cons, List.foldl_cons, ih]
    have e := list_seg_step cells.toList (off + k) v rest (by simp; omega)
    simpa [Array.toList_setIfInBounds, Nat.add_assoc] using e

theorem VRels.take {X : Ctx} {w : World} {as : List AV} {us : List Value} (h : VRels X w as us) (n : Nat) : VRels X w (as.take n) (us.take n) := by
  refine ⟨by simp [h.1], fun i c v hc hv => ?_⟩
  rw [List.getElem?_take] at hc hv
  split at hc
  · rename_i hi; rw [if_pos hi] at hv; exact h.2 i c v hc hv
  · cases hc

theorem VRels.drop {X : Ctx} {w : World} {as : List AV} {us : List Value} (h : VRels X w as us) (n : Nat) : VRels X w (as.drop n) (us.drop n) := by
  refine ⟨by simp [h.1], fun i c v hc hv => ?_⟩
  rw [List.getElem?_drop] at hc hv
  exact h.2 _ c v hc hv

/-- The parts of a composite value, side by side. -/
inductive Parts (X : Ctx) (w : World) (place : Nat → Option (Nat × Nat)) : List (Nat × Nat × AV) → List (Nat × Value) → Prop
  | nil : Parts X w place [] []
  | cons {off size c i v as vs} : place i = some (off, size) → VRel X w c v → Parts X w place as vs → Parts X w place ((off, size, c) :: as) ((i, v) :: vs)

theorem fill_step {X : Ctx} {w : World} {off size : Nat} {c : AV} {v : Value} (hc : VRel X w c v) (hok : okRow c.cells = true) (hs : c.cells.length = size) {row : Row} {cells : Array Value} (hr : VRels X w row cells.toList)
    (hfit : off + size ≤ row.length) :
    v.cells.size = size ∧ off + v.cells.size ≤ cells.size ∧ VRels X w (splice row off c.cells) (v.cells.zipIdx.foldl (fun cs (c, j) => cs.setIfInBounds (off + j) c) cells).toList := by
  obtain ⟨h1, _⟩ := cells_rel hok hc
  have hl := h1.1
  have hrl := hr.1
  simp only [Array.length_toList] at hl hrl
  refine ⟨by omega, by omega, ?_⟩
  have : (v.cells.zipIdx.foldl (fun cs (c, j) => cs.setIfInBounds (off + j) c) cells) = ((v.cells.toList.zipIdx 0).foldl (fun (cs : Array Value) (p : Value × Nat) => cs.setIfInBounds (off + p.2) p.1) cells) := by
    rw [← Array.foldl_toList, Array.toList_zipIdx]
  rw [this, foldl_set off v.cells.toList 0 cells (by simp; omega)]
  simp only [Nat.add_zero, splice]
  refine VRels.append (VRels.append (hr.take off) h1) ?_
  rw [hl]
  simpa using hr.drop (off + v.cells.size)

theorem fill_ok {X : Ctx} {w : World} {place : Nat → Option (Nat × Nat)} {as : List (Nat × Nat × AV)} {vs : List (Nat × Value)} (hp : Parts X w place as vs) {row row' : Row} {cells : Array Value} (hr : VRels X w row cells.toList)
    (hf : fillAV row as = some row') : ∃ cells', Instr.fill place cells vs = some cells' ∧ VRels X w row' cells'.toList := by
  induction hp generalizing row cells with
  | nil => simp only [fillAV, Option.some.injEq] at hf; subst hf; exact ⟨cells, rfl, hr⟩
  | cons hpl hc _ ih =>
    simp only [fillAV] at hf
    unfold req at hf
    split at hf
    case isFalse => cases hf
    rename_i hreq
    obtain ⟨k1, k2, k3⟩ := fill_step hc hreq.2.2 hreq.1 hr hreq.2.1
    obtain ⟨cells', h1, h2⟩ := ih k3 hf
    refine ⟨cells', ?_, h2⟩
    simp only [Instr.fill, hpl, k1, ne_eq, not_true_eq_false, decide_false, Bool.false_or]
    rw [k1] at k2
    rw [if_neg (by simpa using k2)]
    exact h1

/-- The parts of a slice literal. -/
inductive SParts (X : Ctx) (w : World) : List (Nat × AV) → List (Nat × Value) → Prop
  | nil : SParts X w [] []
  | cons {c i v as vs} : VRel X w c v → SParts X w as vs → SParts X w ((i, c) :: as) ((i, v) :: vs)

theorem fillRows_ok {X : Ctx} {w : World} {sz : Nat} {as : List (Nat × AV)} {vs : List (Nat × Value)} (hp : SParts X w as vs) {rs rs' : List Row} (hl : ∀ row ∈ rs, row.length = sz) (hok : ∀ row ∈ rs, okRow row = true) {cells : Array Value}
    (hr : VRels X w rs.flatten cells.toList) (hf : fillRows rs sz as = some rs') :
    ∃ cells', Instr.fill (fun i => some (i * sz, sz)) cells vs = some cells' ∧ VRels X w rs'.flatten cells'.toList ∧ (∀ row ∈ rs', row.length = sz) ∧ (∀ row ∈ rs', okRow row = true) ∧ rs'.length = rs.length := by
  induction hp generalizing rs cells with
  | nil => simp only [fillRows, Option.some.injEq] at hf; subst hf; exact ⟨cells, rfl, hr, hl, hok, rfl⟩
  | cons hc _ ih =>
    rename_i c i v as vs _
    simp only [fillRows] at hf
    unfold req at hf
    split at hf
    case isFalse => cases hf
    rename_i hreq
    obtain ⟨hlen, hi, hokc⟩ := hreq
    have hrow : rs[i]? = some rs[i] := List.getElem?_eq_getElem hi
    have hrl : (rs[i]).length = sz := hl _ (List.getElem_mem hi)
    have hfl := flat_len hl
    have hfits := row_fits (s := sz) hrow
    obtain ⟨k1, k2, k3⟩ := fill_step hc hokc hlen hr (off := i * sz) (by rw [hfl]; exact hfits)
    have hsp : splice rs[i] 0 c.cells = c.cells := by
      simp only [splice, List.take_zero, List.nil_append, Nat.zero_add]
      rw [List.drop_eq_nil_of_le (by omega), List.append_nil]
    have hflat := splice_flat hl hrow (j := 0) (cs := c.cells) (by omega)
    rw [hsp, Nat.add_zero] at hflat
    have k3' : VRels X w (rs.set i c.cells).flatten (v.cells.zipIdx.foldl (fun cs (c, j) => cs.setIfInBounds (i * sz + j) c) cells).toList := by
      rw [hflat]; exact k3
    have hok' : ∀ row ∈ rs.set i c.cells, okRow row = true := by
      intro row hrw
      rcases List.mem_or_eq_of_mem_set hrw with h | h
      · exact hok row h
      · rw [h]; exact hokc
    obtain ⟨cells', h1, h2, h3, h4, h5⟩ := ih (len_set hl hlen) hok' k3' hf
    refine ⟨cells', ?_, h2, h3, h4, by simpa using h5⟩
    simp only [Instr.fill, k1, ne_eq, not_true_eq_false, decide_false, Bool.false_or]
    rw [k1] at k2
    rw [if_neg (by simpa using k2)]
    exact h1

/-- A block that nobody here owns. -/
theorem alloc_foreign {X : Ctx} {H : Heap} {w : World} (hH : HRel X H w) (o : Obj) : HRel X H (w.alloc o) ∧ Stp X w X (w.alloc o) := by
  have hs : Stp X w X (w.alloc o) := ⟨by simp, rfl, rfl, rfl, fun b hb _ => heap_alloc_old w o b hb, fun _ bi h => ⟨bi, h, Nat.le_refl _, fun _ => rfl⟩, fun _ h => h, fun _ bi h => .inr ⟨bi, h, rfl⟩, fun _ h => .inl h, rfl, fun _ bi h => .inl ⟨bi, h⟩⟩
  refine ⟨⟨fun r bi hr => ?_, hH.inj, hH.own, fun b hb => Nat.lt_of_lt_of_le (hH.old b hb) hs.size, hH.top⟩, hs⟩
  obtain ⟨b, h1, h2⟩ := hH.blk r bi hr
  exact ⟨b, h1, h2.keep hH hs (heap_alloc_old w o _ (hH.old _ (hH.own r bi hr)))⟩

theorem mkslice_run {X : Ctx} {w : World} {P : Program} {t e : TypeId} {i : TypeInfo} {z : Value} {sz bytes : Nat} (E : ElemOk P t e i z sz bytes) {za : Row} (hz : ∀ X w, VRels X w za z.cells.toList)
    (n : Nat) (hn : n * sz ≤ 16777216) {as : List (Nat × AV)} {vs : List (Nat × Value)} (hp : SParts X w as vs) (hok : okRow za = true) {rs : List Row} (hf : fillRows (List.replicate n za) za.length as = some rs) :
    ∃ cells' : Array Value, (Instr.buildSlice t n vs.toArray).run P w = .ok (.slice (some ⟨w.heap.size, 0, none⟩) n n) (w.alloc (.cells cells' e (0, 0))) ∧ VRels X w rs.flatten cells'.toList ∧ (∀ row ∈ rs, row.length = za.length) ∧ (∀ row ∈ rs, okRow row = true) ∧ rs.length = n := by
  have hzl : za.length = sz := by rw [(hz X w).1]; simpa using E.zsize
  rw [hzl] at hf ⊢
  have hL : ∀ row ∈ List.replicate n za, row.length = sz := by intro row hr; rw [(List.mem_replicate.1 hr).2]; exact hzl
  have hO : ∀ row ∈ List.replicate n za, okRow row = true := by intro row hr; rw [(List.mem_replicate.1 hr).2]; exact hok
  let base : Array Value := (Array.range (n * sz)).map (fun k => z.cells[k % z.cells.size]!)
  have hbase : VRels X w (List.replicate n za).flatten base.toList := by
    refine ⟨by rw [flat_len hL]; simp [base], fun k a b ha hb => ?_⟩
    have hk := (List.getElem?_eq_some_iff.1 ha).1
    rw [flat_len hL, List.length_replicate] at hk
    rw [replicate_flat za n k (by rw [hzl]; exact E.pos) (by rw [hzl]; exact hk)] at ha
    simp only [base, Array.toList_map, Array.toList_range, List.getElem?_map, List.getElem?_range hk, Option.map_some, Option.some.injEq] at hb
    subst hb
    have hm : k % z.cells.size < z.cells.size := Nat.mod_lt _ (by rw [E.zsize]; exact E.pos)
    refine (hz X w).2 (k % za.length) a _ ha ?_
    have e1 : za.length = z.cells.size := by rw [hzl, E.zsize]
    rw [e1]
    simp only [Array.getElem?_toList]
    rw [getElem!_pos z.cells _ hm]
    exact Array.getElem?_eq_getElem hm
  obtain ⟨cells', h1, h2, h3, h4, h5⟩ := fillRows_ok hp hL hO hbase hf
  have hs : (sizeOf e).run P w = .ok sz w := by simp [sizeOf, typeInfo, E.info, E.hsize]
  have hti : (zeroValue e).run P w = .ok z w := by simp [zeroValue, typeInfo, E.info, E.zero]
  have hn' : ¬ (n * sz > 2 ^ 24) := by simp; omega
  have hlen : rs.length = n := by simpa using h5
  refine ⟨cells', ?_, h2, h3, h4, hlen⟩
  by_cases h0 : n * sz = 0
  · have hb0 : (Array.map (fun _ => (default : Value)) (Array.range 0)) = base := by
      have e1 : base.size = 0 := by simp [base, h0]
      have e2 : base = #[] := Array.eq_empty_of_size_eq_zero e1
      rw [e2]
      exact Array.eq_empty_of_size_eq_zero (by simp)
    simp [Instr.buildSlice, run_underlying E.und, hs, h0, newRow]
    rw [hb0, h1]
    simp
  · simp [Instr.buildSlice, run_underlying E.und, hs, hn', h0, hti, newRow]
    rw [show (Array.map (fun x => z.cells[x % z.cells.size]!) (Array.range (n * sz))) = base from rfl, h1]
    simp

theorem mkslice_ok {X : Ctx} {H : Heap} {w : World} (hH : HRel X H w) {P : Program} {t e : TypeId} {i : TypeInfo} {z : Value} {sz bytes : Nat} (E : ElemOk P t e i z sz bytes) {za : Row} (hz : ∀ X w, VRels X w za z.cells.toList)
    (n : Nat) (hn : n * sz ≤ 16777216) {as : List (Nat × AV)} {vs : List (Nat × Value)} (hp : SParts X w as vs) (hok : okRow za = true) {rs : List Row} (hf : fillRows (List.replicate n za) za.length as = some rs) :
    ∃ v' w' X', (Instr.buildSlice t n vs.toArray).run P w = .ok v' w' ∧ VRel X' w' (.slice H.length 0 0 n) v' ∧ HRel X' (H ++ [.rows 0 za.length rs]) w' ∧ Stp X w X' w' := by
  have hzl : za.length = sz := by rw [(hz X w).1]; simpa using E.zsize
  obtain ⟨cells', h0, h2, h3, h4, hlen⟩ := mkslice_run E hz n hn hp hok hf
  obtain ⟨X', bi, k1, k2, k3, k4, k5, k6, k7, k8⟩ := new_ok hH (w1 := w) ⟨w.drawn, rfl⟩ e h3 h2 (okRow_all h4) [] (lo := 0) (hi := 0) (.inl rfl)
  simp only [List.append_nil, Array.toArray_toList] at k7 k8
  refine ⟨_, _, X', h0, ?_, k7, k8⟩
  refine .slice k1 (by omega) (Nat.le_refl _) (fun _ => ⟨fun _ => by rw [k3, k4]; simp, ?_⟩)
  rw [k4, k5, k6, ← h2.1, flat_len h3, hlen]
  simp

/-- The same slice, immutable from its birth on. -/
theorem mkfrz_ok {X : Ctx} {H : Heap} {w : World} (hH : HRel X H w) {P : Program} {t e : TypeId} {i : TypeInfo} {z : Value} {sz bytes : Nat} (E : ElemOk P t e i z sz bytes) {za : Row} (hz : ∀ X w, VRels X w za z.cells.toList)
    (n : Nat) (hn : n * sz ≤ 16777216) {as : List (Nat × AV)} {vs : List (Nat × Value)} (hp : SParts X w as vs) (hok : okRow za = true) {rs : List Row} (hf : fillRows (List.replicate n za) za.length as = some rs) :
    ∃ v' w' X', (Instr.buildSlice t n vs.toArray).run P w = .ok v' w' ∧ VRel X' w' (.islice rs) v' ∧ HRel X' H w' ∧ Stp X w X' w' := by
  obtain ⟨cells', h0, h2, h3, h4, hlen⟩ := mkslice_run E hz n hn hp hok hf
  obtain ⟨k1, k2⟩ := alloc_foreign hH (.cells cells' e (0, 0))
  have hcell : ∀ (i : Nat) row (j : Nat) c, rs[i]? = some row → row[j]? = some c → ∃ u, (w.alloc (.cells cells' e (0, 0))).cell? ⟨w.heap.size, 0 + i * za.length + j, none⟩ = some u ∧ VRel X (w.alloc (.cells cells' e (0, 0))) c u ∧ c.sc = true := by
    intro i row j c hr hc
    have hj : j < za.length := by have := (List.getElem?_eq_some_iff.1 hc).1; rw [h3 row (List.mem_of_getElem? hr)] at this; exact this
    have hfl := flat_get h3 hr hj
    rw [hc] at hfl
    have hlt := (List.getElem?_eq_some_iff.1 hfl).1
    obtain ⟨u, hu⟩ : ∃ u, cells'.toList[i * za.length + j]? = some u := ⟨cells'.toList[i * za.length + j]'(by rw [← h2.1]; exact hlt), by simp⟩
    refine ⟨u, ?_, (h2.2 _ c u hfl hu).step hH k2, (List.all_eq_true.1 (h4 row (List.mem_of_getElem? hr))) c (List.mem_of_getElem? hc)⟩
    rw [cell_of_row _ _ _ _ _ _ (heap_alloc_new w _)]
    simpa using hu
  refine ⟨_, _, X, h0, ?_, k1, k2⟩
  refine .islice (s := za.length) (fun i j => ((w.alloc (.cells cells' e (0, 0))).cell? ⟨w.heap.size, 0 + i * za.length + j, none⟩).getD undef) hlen (Nat.le_refl _) h3 (fun i row j c a b => ?_) (fun i row j c a b => ?_) (fun _ => ⟨fun ho => Nat.lt_irrefl _ (hH.old _ ho), rfl, by simp⟩)
  · obtain ⟨u, q1, _, q3⟩ := hcell i row j c a b
    simp only [q1, Option.getD_some]
    exact ⟨trivial, q3⟩
  · obtain ⟨u, q1, q2, _⟩ := hcell i row j c a b
    simp only [q1, Option.getD_some]
    exact q2

end Go.Ab
