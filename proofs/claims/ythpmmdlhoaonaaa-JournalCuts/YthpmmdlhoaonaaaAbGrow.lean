/-
  New blocks, append, copy, make, conversions between strings and bytes: under the relation.
  Conditions: none.
-/
import Derived.Test.YthpmmdlhoaonaaaAbMem
namespace Go.Ab

theorem okRow_all {rs : List Row} (h : ∀ row ∈ rs, okRow row = true) : okRow rs.flatten = true := by
  simp only [okRow, List.all_eq_true, List.mem_flatten] at *
  rintro x ⟨row, hr, hx⟩
  exact h row hr x hx

theorem VRels.nil (X : Ctx) (w : World) : VRels X w [] [] := ⟨rfl, by simp⟩

theorem VRels.append {X : Ctx} {w : World} {as bs : List AV} {us vs : List Value} (h1 : VRels X w as us) (h2 : VRels X w bs vs) : VRels X w (as ++ bs) (us ++ vs) := by
  refine ⟨by simp [h1.1, h2.1], fun i c v hc hv => ?_⟩
  by_cases h : i < as.length
  · rw [List.getElem?_append_left h] at hc
    rw [List.getElem?_append_left (by rw [← h1.1]; exact h)] at hv
    exact h1.2 i c v hc hv
  · rw [List.getElem?_append_right (by omega)] at hc
    rw [List.getElem?_append_right (by rw [← h1.1]; omega), ← h1.1] at hv
    exact h2.2 _ c v hc hv

theorem VRels.cons {X : Ctx} {w : World} {a : AV} {u : Value} {as : List AV} {us : List Value} (h : VRel X w a u) (hs : VRels X w as us) : VRels X w (a :: as) (u :: us) := by
  refine ⟨by simp [hs.1], fun i c v hc hv => ?_⟩
  cases i with
  | zero => simp at hc hv; subst hc; subst hv; exact h
  | succ i => simp at hc hv; exact hs.2 i c v hc hv

/-- A new block of cells. -/
theorem new_ok {X : Ctx} {H : Heap} {w w1 : World} (hH : HRel X H w) (hw : ∃ n, w1 = { w with drawn := n }) (e : TypeId) {rs : List Row} {s : Nat} (hl : ∀ row ∈ rs, row.length = s)
    {vs : List Value} (hv : VRels X w rs.flatten vs) (hok : okRow rs.flatten = true) (more : List Value) {lo hi : Nat} (hfr : Frz (vs.length + more.length) lo hi) :
    ∃ X' bi, X'.blk H.length = some bi ∧ bi.g = 0 ∧ bi.B = w.heap.size ∧ bi.o = 0 ∧ bi.sz = s ∧ bi.cs = vs.length + more.length ∧
      HRel X' (H ++ [.rows 0 s rs]) (w1.alloc (.cells (vs ++ more).toArray e (lo, hi))) ∧ Stp X w X' (w1.alloc (.cells (vs ++ more).toArray e (lo, hi))) := by
  obtain ⟨dn, rfl⟩ := hw
  let bi : BI := ⟨0, w.heap.size, 0, s, vs.length + more.length⟩
  have hu : New X w H.length bi (World.alloc { w with drawn := dn } (.cells (vs ++ more).toArray e (lo, hi))) :=
    { free := hH.free (Nat.le_refl _), top := hH.top, size := by simp, os := rfl, tape := rfl, output := rfl
      others := fun b hb => heap_alloc_old { w with drawn := dn } _ b hb
      place := Nat.le_refl _, lt := by simp [bi] }
  have hs := hu.stp
  have hnew := heap_alloc_new { w with drawn := dn } (.cells (vs ++ more).toArray e (lo, hi))
  refine ⟨_, bi, by simp [Ctx.set], rfl, rfl, rfl, rfl, rfl, hu.hrel hH ?_, hs⟩
  have hfl := flat_len hl
  have hvl := hv.1
  refine brel_rows rfl rfl hnew (by simp [bi]) ?_ hl ?_ ?_
  · exact hfr
  · simp only [bi]; omega
  · intro k c hk
    have hkl := (List.getElem?_eq_some_iff.1 hk).1
    obtain ⟨v, hv'⟩ : ∃ v, vs[k]? = some v := ⟨vs[k]'(by omega), by simp⟩
    refine ⟨v, ?_, ?_, (hv.2 k c v hk hv').step hH hs⟩
    · rw [cell_of_row _ _ _ _ _ _ hnew]
      simp only [bi, Nat.zero_add, List.getElem?_toArray]
      rw [List.getElem?_append_left (by omega)]
      exact hv'
    · exact (List.all_eq_true.1 hok) c (List.mem_of_getElem? hk)

theorem flatten_ones {α β : Type} (l : List α) (f : α → β) : (l.map fun b => [f b]).flatten = l.map f := by
  induction l with
  | nil => rfl
  | cons x xs ih => simp [ih]

theorem sub_cells {X : Ctx} {w : World} {b o sz : Nat} {rs : List Row} (hl : ∀ row ∈ rs, row.length = sz) {i n : Nat} (hle : i + n ≤ rs.length) (hat : CellsAt X w b o rs.flatten) :
    CellsAt X w b (o + i * sz) ((rs.drop i).take n).flatten := by
  have e1 : rs.flatten = (rs.take i).flatten ++ (rs.drop i).flatten := by rw [← List.flatten_append, List.take_append_drop]
  have e2 : (rs.drop i).flatten = ((rs.drop i).take n).flatten ++ ((rs.drop i).drop n).flatten := by rw [← List.flatten_append, List.take_append_drop]
  rw [e1, e2] at hat
  have := hat.right.left
  rwa [flat_len (s := sz) (fun row hr => hl row (List.mem_of_mem_take hr)), List.length_take, Nat.min_eq_left (by omega)] at this

/-- What an append, a copy or a conversion reads. -/
theorem elems_ok {X : Ctx} {H : Heap} {w : World} (hH : HRel X H w) {c : AV} {v : Value} (hv : VRel X w c v) {rows : List Row} (he : elems H c = some rows) (P : Program) {sz : Nat}
    (hsz : ∀ row ∈ rows, row.length = sz) :
    (Builtin.lenOf v).run P w = .ok rows.length w ∧ okRow rows.flatten = true ∧
    ∀ n, n ≤ rows.length → ∃ vs : List Value, (Builtin.firstCells sz n v).run P w = .ok vs.toArray w ∧ VRels X w (rows.take n).flatten vs ∧ ∀ u ∈ vs, u.oneCell' = true := by
  have key : ∀ (a : Addr) (cap : Nat), v = .slice (some a) rows.length cap → (0 < rows.length → a.spot = none) → CellsAt X w a.block a.off rows.flatten →
      (Builtin.lenOf v).run P w = .ok rows.length w ∧ okRow rows.flatten = true ∧
      ∀ n, n ≤ rows.length → ∃ vs : List Value, (Builtin.firstCells sz n v).run P w = .ok vs.toArray w ∧ VRels X w (rows.take n).flatten vs ∧ ∀ u ∈ vs, u.oneCell' = true := by
    rintro a cap rfl hsp hc
    refine ⟨by simp [Builtin.lenOf], ?_, fun n hn => ?_⟩
    · simp only [okRow, List.all_eq_true]
      intro x hx
      obtain ⟨k, hk⟩ := List.mem_iff_getElem?.1 hx
      obtain ⟨_, _, h, _⟩ := hc k x hk
      exact h
    · have hfl : (rows.take n).flatten.length = n * sz := by
        rw [flat_len (s := sz) (fun row hr => hsz row (List.mem_of_mem_take hr))]
        simp; rw [Nat.min_eq_left hn]
      have hpre : rows.flatten = (rows.take n).flatten ++ (rows.drop n).flatten := by rw [← List.flatten_append, List.take_append_drop]
      have hc' : CellsAt X w a.block a.off (rows.take n).flatten := by rw [hpre] at hc; exact hc.left
      obtain ⟨vs, h1, h2, h3, h4⟩ := hc'.values
      refine ⟨vs, ?_, h3, h4⟩
      by_cases h0 : 0 < rows.length
      · have ha : a = ⟨a.block, a.off, none⟩ := by cases a; simp at hsp; simp [hsp h0]
        have := run_loadCells_list (P := P) w a vs (fun k u hk => by rw [ha, addr_add]; exact h2 k u hk)
        rw [h1, hfl] at this
        simpa [Builtin.firstCells] using this
      · have hn0 : n = 0 := by omega
        subst hn0
        have hvs : vs = [] := List.eq_nil_of_length_eq_zero (by rw [h1, hfl]; simp)
        subst hvs
        simp [Builtin.firstCells, loadCells, loadCellsFrom]
  cases hv <;> simp only [elems, Option.bind_eq_some_iff, reduceCtorEq, Option.some.injEq] at he
  case str s t h =>
    subst he
    subst h
    have hsize : t.size = t.data.toList.length := by simp
    refine ⟨by simp [Builtin.lenOf], ?_, fun n hn => ?_⟩
    · exact okRow_all (by intro row hr; simp at hr; obtain ⟨b, _, rfl⟩ := hr; rfl)
    · refine ⟨(t.data.toList.take n).map fun b => .int .u8 b.toNat, ?_, ?_, ?_⟩
      · simp only [Builtin.firstCells, Sem.run_pure]
        congr 1
        apply Array.ext'
        simp only [Array.toList_map]
        congr 1
        simp [ByteArray.data_extract, Array.toList_extract, List.extract_eq_take_drop]
      · rw [← List.map_take, flatten_ones]
        refine ⟨by simp, fun i c v hc hv => ?_⟩
        simp only [List.getElem?_map, Option.map_eq_some_iff] at hc hv
        obtain ⟨b, hb, rfl⟩ := hc
        obtain ⟨b', hb', rfl⟩ := hv
        rw [hb] at hb'
        cases hb'
        exact .int
      · intro u hu
        obtain ⟨b, _, rfl⟩ := List.mem_map.1 hu
        rfl
  case nils =>
    subst he
    exact ⟨by simp [Builtin.lenOf], rfl, fun n hn => ⟨[], by simp [Builtin.firstCells], by simpa using VRels.nil X w, by simp⟩⟩
  case islice0 =>
    subst he
    exact ⟨by simp [Builtin.lenOf], rfl, fun n hn => ⟨[], by simp [Builtin.firstCells], by simpa using VRels.nil X w, by simp⟩⟩
  case islice =>
    rename_i rws n a cap s f hn hcap hl hc hv ho
    subst he
    subst hn
    refine key a cap rfl (fun h => (ho h).2.1) ((rows_flat hl).1 (fun i row j c h1 h2 => ⟨f i j, (hc i row j c h1 h2).1, (hc i row j c h1 h2).2, hv i row j c h1 h2⟩))
  case slice =>
    rename_i r g i n a cap bi hx hg hcap ha
    obtain ⟨rs, h1, h2⟩ := he
    unfold req at h2
    split at h2
    · rename_i hle
      cases h2
      obtain ⟨ss, hb⟩ := Heap.rowsOf_some h1
      obtain ⟨⟨hg', _⟩, _, hl, _, hat⟩ := (hH.at hb hx).cellsAt
      obtain ⟨ha1, ha2⟩ := ha hg'
      have hlen : ((rs.drop i).take n).length = n := by simp; omega
      have hsub := sub_cells hl hle hat
      by_cases h0 : 0 < cap
      · have := ha1 h0
        subst this
        exact key _ cap (by rw [hlen]) (fun _ => rfl) hsub
      · have hn0 : n = 0 := by omega
        subst hn0
        exact key a cap (by simp) (by simp) (by simp; intro k c hk; simp at hk)
    · cases h2

/-- What the tables say of a slice's type. -/
structure ElemOk (P : Program) (t e : TypeId) (i : TypeInfo) (z : Value) (sz bytes : Nat) : Prop where
  und : P.underlying t = some (.slice e)
  info : P.info? e = some i
  zero : i.zero = some z
  hsize : i.size = sz
  hbytes : i.bytes = bytes
  zsize : z.cells.size = sz
  pos : 0 < sz
  bpos : 0 < bytes

theorem run_append_room' {P : Program} {w : World} {t t2 ty e : TypeId} {i : TypeInfo} {z : Value} {sz bytes : Nat} (E : ElemOk P t e i z sz bytes) {d2 : TypeDesc} (h2 : P.underlying t2 = some d2) (hd2 : (∃ e', d2 = .slice e') ∨ d2 = .string)
    {a : Addr} {sLen sCap m : Nat} {x : Value} (hx : (Builtin.lenOf x).run P w = .ok m w) {vs : List Value} (hf : (Builtin.firstCells sz m x).run P w = .ok vs.toArray w) (hroom : sLen + m ≤ sCap) {w' : World}
    (hst : (storeCells (a.add (sLen * sz)) vs).run P w = .ok () w') :
    (Builtin.append_ #[t, t2] ty #[.slice (some a) sLen sCap, x]).run P w = .ok (.slice (some a) (sLen + m) sCap) w' := by
  have hs : (sizeOf e).run P w = .ok sz w := by simp [sizeOf, typeInfo, E.info, E.hsize]
  rcases hd2 with ⟨e', rfl⟩ | rfl <;> simp [Builtin.append_, run_underlying E.und, run_underlying h2, hs, hx, hf, hroom, hst]

theorem run_append_grow' {P : Program} {w : World} {t t2 ty e : TypeId} {i : TypeInfo} {z : Value} {sz bytes : Nat} (E : ElemOk P t e i z sz bytes) {d2 : TypeDesc} (h2 : P.underlying t2 = some d2) (hd2 : (∃ e', d2 = .slice e') ∨ d2 = .string)
    {base : Option Addr} {sLen sCap m : Nat} {x : Value} (hx : (Builtin.lenOf x).run P w = .ok m w) {os vs : List Value} (ho : (Builtin.firstCells sz sLen (.slice base sLen sCap)).run P w.drew = .ok os.toArray w.drew)
    (hf : (Builtin.firstCells sz m x).run P w.drew = .ok vs.toArray w.drew) (hroom : sCap < sLen + m) (hfit : (sLen + m) * bytes ≤ roomB) (hlen : sLen + m ≤ 9223372036854775807) :
    (Builtin.append_ #[t, t2] ty #[.slice base sLen sCap, x]).run P w = .ok (.slice (some ⟨w.heap.size, 0, none⟩) (sLen + m) (grownCap w (sLen + m) sCap e))
      (w.drew.alloc (.cells (os ++ (vs ++ (Builtin.zeroCells z.cells (grownCap w (sLen + m) sCap e - (sLen + m))).toList)).toArray e)) := by
  have hs : ∀ w, (sizeOf e).run P w = .ok sz w := by intro w; simp [sizeOf, typeInfo, E.info, E.hsize]
  have h1 : ¬ (sLen + m ≤ sCap) := by omega
  have h63 : ¬ (9223372036854775807 < (sLen + m : Nat)) := by omega
  have h48 : ¬ (281474976710656 < Builtin.nextslicecap (sLen + m) sCap * bytes) := by have := growslice_fits hroom hfit; omega
  have hti : ∀ w, (typeInfo e).run P w = .ok i w := by intro w; simp [typeInfo, E.info]
  have hzv : ∀ w, (zeroValue e).run P w = .ok z w := by intro w; simp [zeroValue, typeInfo, E.info, E.zero]
  have hb := E.hbytes
  have h63i : ¬ ((9223372036854775807 : Int) < ((sLen : Int) + (m : Int))) := by omega
  rcases hd2 with ⟨e', rfl⟩ | rfl <;> simp [Builtin.append_, run_underlying E.und, run_underlying h2, hs, hx, h1, hti, hzv, hb, h48, h63i, Question.forced, newRow, ho, hf, grownCap] <;> (congr 2; apply Array.ext'; simp)


theorem run_append_none {P : Program} {w : World} {t t2 ty e : TypeId} {i : TypeInfo} {z : Value} {sz bytes : Nat} (E : ElemOk P t e i z sz bytes) {d2 : TypeDesc} (h2 : P.underlying t2 = some d2) (hd2 : (∃ e', d2 = .slice e') ∨ d2 = .string)
    {x : Value} (hx : (Builtin.lenOf x).run P w = .ok 0 w) {vs : List Value} (hf : (Builtin.firstCells sz 0 x).run P w = .ok vs.toArray w) :
    (Builtin.append_ #[t, t2] ty #[.slice none 0 0, x]).run P w = .ok (.slice none 0 0) w := by
  have hs : (sizeOf e).run P w = .ok sz w := by simp [sizeOf, typeInfo, E.info, E.hsize]
  rcases hd2 with ⟨e', rfl⟩ | rfl <;> simp [Builtin.append_, run_underlying E.und, run_underlying h2, hs, hx, hf]

theorem size_zc (z : Array Value) (n : Nat) : (Builtin.zeroCells z n).size = n * z.size := by simp [Builtin.zeroCells]

/-- Growth into a new block: what stands behind it. -/
theorem grow_ok {X : Ctx} {H : Heap} {w : World} (hH : HRel X H w) {P : Program} {t e : TypeId} {i : TypeInfo} {z : Value} {sz bytes : Nat} (E : ElemOk P t e i z sz bytes)
    {rs : List Row} (hl : ∀ row ∈ rs, row.length = sz) {vs : List Value} (hv : VRels X w rs.flatten vs) (hok : okRow rs.flatten = true) (need cap : Nat) (hn : need = rs.length) (hc : need ≤ cap) :
    ∃ X' bi, X'.blk H.length = some bi ∧ bi.g = 0 ∧ bi.B = w.heap.size ∧ bi.o = 0 ∧ bi.sz = sz ∧ bi.cs = cap * sz ∧
      HRel X' (H ++ [.rows 0 sz rs]) (w.drew.alloc (.cells (vs ++ (Builtin.zeroCells z.cells (cap - need)).toList).toArray e)) ∧
      Stp X w X' (w.drew.alloc (.cells (vs ++ (Builtin.zeroCells z.cells (cap - need)).toList).toArray e)) := by
  obtain ⟨X', bi, h1, h2, h3, h4, h5, h6, h7, h8⟩ := new_ok hH (w1 := w.drew) ⟨w.drawn + 1, rfl⟩ e hl hv hok (Builtin.zeroCells z.cells (cap - need)).toList (lo := 0) (hi := 0) (.inl rfl)
  refine ⟨X', bi, h1, h2, h3, h4, h5, ?_, h7, h8⟩
  rw [h6, ← hv.1, flat_len hl, ← hn]
  simp only [Array.length_toList, size_zc, E.zsize]
  rw [← Nat.add_mul]
  congr 1
  omega

/-- A slice that has grown within its own block, or into a new one. -/
theorem append_ok {X : Ctx} {H H' : Heap} {w : World} (hH : HRel X H w) {s x c : AV} {vs vx : Value} (hs : VRel X w s vs) (hx : VRel X w x vx) {P : Program} {t t2 ty e : TypeId} {i : TypeInfo} {z : Value} {sz bytes : Nat}
    (E : ElemOk P t e i z sz bytes) {d2 : TypeDesc} (h2 : P.underlying t2 = some d2) (hd2 : (∃ e', d2 = .slice e') ∨ d2 = .string) (he : appendAV H sz bytes s x = some (c, H')) :
    ∃ v' w' X', (Builtin.append_ #[t, t2] ty #[vs, vx]).run P w = .ok v' w' ∧ VRel X' w' c v' ∧ HRel X' H' w' ∧ Stp X w X' w' := by
  simp only [appendAV, Option.bind_eq_some_iff] at he
  obtain ⟨news, hn, he⟩ := he
  unfold req at he
  split at he
  case isFalse => cases he
  rename_i hsz
  obtain ⟨hlen, hok, hcells⟩ := elems_ok hH hx hn P hsz
  obtain ⟨nv, hnv, hnr, hn1⟩ := hcells news.length (Nat.le_refl _)
  rw [List.take_length] at hnr
  obtain ⟨_, _, hcells'⟩ := elems_ok (w := w.drew) (HRel.drawn hH) hx.drawn hn P hsz
  obtain ⟨nv', hnv', hnr', hn1'⟩ := hcells' news.length (Nat.le_refl _)
  rw [List.take_length] at hnr'
  have roomLen : ∀ n : Nat, n * bytes ≤ roomB → n ≤ 9223372036854775807 := by
    intro n hn
    have h1 : n * 1 ≤ n * bytes := Nat.mul_le_mul_left _ E.bpos
    simp only [roomB] at hn
    omega
  cases hs <;> simp only [reduceCtorEq] at he
  case nils =>
    cases news with
    | nil =>
      simp only [Option.some.injEq, Prod.mk.injEq] at he
      obtain ⟨rfl, rfl⟩ := he
      exact ⟨_, w, X, run_append_none E h2 hd2 hlen hnv, .nils, hH, Stp.refl _ _⟩
    | cons row rest =>
      simp only at he
      split at he
      case isFalse => cases he
      rename_i hfit
      simp only [Option.some.injEq, Prod.mk.injEq] at he
      obtain ⟨rfl, rfl⟩ := he
      have hg := run_append_grow' (ty := ty) E h2 hd2 (base := none) (sLen := 0) (sCap := 0) hlen (os := []) (by simp [Builtin.firstCells]) hnv' (by simp) (by simpa using hfit) (by simpa using roomLen _ hfit)
      simp only [Nat.zero_add, List.nil_append] at hg
      have hge := grownCap_ge w (row :: rest).length 0 e
      obtain ⟨X', bi, k1, k2, k3, k4, k5, k6, k7, k8⟩ := grow_ok hH E hsz (vs := nv') ⟨hnr'.1, fun i c v a b => by have := hnr'.2 i c v a b; exact this.drawn (n := w.drawn)⟩ hok _ (grownCap w (row :: rest).length 0 e) rfl hge
      refine ⟨_, _, X', hg, ?_, k7, k8⟩
      refine .slice k1 (by omega) hge (fun _ => ⟨fun _ => by rw [k3, k4]; simp, ?_⟩)
      rw [k4, k5, k6]
      simp
  case islice0 =>
    cases news with
    | cons row rest => simp at he
    | nil =>
      simp only [Option.some.injEq, Prod.mk.injEq] at he
      obtain ⟨rfl, rfl⟩ := he
      exact ⟨_, w, X, run_append_none E h2 hd2 hlen hnv, .islice0, hH, Stp.refl _ _⟩
  case islice =>
    rename_i rws n a cap s' f h1 h3 h4 h5 h6 h7
    cases news with
    | cons row rest => simp at he
    | nil =>
      simp only [Option.some.injEq, Prod.mk.injEq] at he
      obtain ⟨rfl, rfl⟩ := he
      have hnv0 : nv = [] := List.eq_nil_of_length_eq_zero (by rw [← hnr.1]; rfl)
      subst hnv0
      have := run_append_room' (ty := ty) E h2 hd2 (a := a) (sLen := n) (sCap := cap) hlen hnv (by simpa using h3) (w' := w) (by simp [storeCells])
      exact ⟨_, w, X, this, .islice f h1 h3 h4 h5 h6 h7, hH, Stp.refl _ _⟩
  case slice =>
    rename_i r g ix n a cap bi hb hg hcap ha
    simp only [Option.bind_eq_some_iff] at he
    obtain ⟨⟨ss, rs⟩, hrs, he⟩ := he
    split at he
    case isFalse => cases he
    rename_i hreq
    obtain ⟨hss, hle, hfit⟩ := hreq
    have hblk := Heap.blkOf_some hrs
    simp only at hss hle hblk
    subst hss
    have hbr := hH.at hblk hb
    obtain ⟨⟨hgg, hszz⟩, ⟨cur, ce, lo, hi, hcur, hcsz, hfr⟩, hl, hrl, hat⟩ := hbr.cellsAt
    subst hszz
    obtain ⟨ha1, ha2⟩ := ha hgg
    cases news with
    | nil =>
      simp only [Option.some.injEq, Prod.mk.injEq] at he
      obtain ⟨rfl, rfl⟩ := he
      have hnv0 : nv = [] := List.eq_nil_of_length_eq_zero (by rw [← hnr.1]; rfl)
      subst hnv0
      have := run_append_room' (ty := ty) E h2 hd2 (a := a) (sLen := n) (sCap := cap) hlen hnv (by simpa using hcap) (w' := w) (by simp [storeCells])
      exact ⟨_, w, X, this, .slice hb hg hcap ha, hH, Stp.refl _ _⟩
    | cons row rest =>
      simp only [Option.some.injEq, Prod.mk.injEq] at he
      obtain ⟨rfl, rfl⟩ := he
      have hlk : ∀ x ∈ (rs.drop ix).take n, x.length = bi.sz := fun x hx => hl x (List.mem_of_mem_drop (List.mem_of_mem_take hx))
      have hlen1 : ((rs.drop ix).take n).length = n := by simp; omega
      have hold := sub_cells hl hle hat
      have hfo := flat_len hlk
      rw [hlen1] at hfo
      have hln : ∀ x ∈ (rs.drop ix).take n ++ row :: rest, x.length = bi.sz := by
        intro x hx
        rcases List.mem_append.1 hx with h | h
        · exact hlk x h
        · exact hsz x h
      have hfn := flat_len hsz
      have hnl := hnr.1
      by_cases hroom : n + (row :: rest).length ≤ cap
      · have hcap0 : 0 < cap := by simp at hroom; omega
        have hae := ha1 hcap0
        subst hae
        have hmul : (n + (row :: rest).length) * bi.sz ≤ cap * bi.sz := Nat.mul_le_mul_right _ hroom
        rw [Nat.add_mul] at hmul ha2
        have hst := run_storeCells_fr P bi.B (bi.o + ix * bi.sz + n * bi.sz) ce lo hi nv 0 cur w hcur (by rw [← hnl, hfn]; simp only [Nat.add_zero]; omega) (by rw [hcsz]; exact frz_ok hfr) hn1
        simp only [Nat.add_zero] at hst
        have hu := setRow_upd hb hcur (cur.toList.take (bi.o + ix * bi.sz + n * bi.sz) ++ nv ++ cur.toList.drop (bi.o + ix * bi.sz + n * bi.sz + nv.length)).toArray
          (bi' := ⟨bi.g + 1, bi.B, bi.o + ix * bi.sz, bi.sz, bi.cs⟩) rfl (.inr (by simp))
        have hsp := hu.stp hH.own
        have hat' := cellsAt_splice hH hcur hold hnr hok (q := n * bi.sz) (by rw [hfn]; omega) (by omega) hsp
        have e1 : ((rs.drop ix).take n).flatten.take (n * bi.sz) = ((rs.drop ix).take n).flatten := List.take_of_length_le (by omega)
        have e2 : ((rs.drop ix).take n).flatten.drop (n * bi.sz + (row :: rest).flatten.length) = [] := List.drop_eq_nil_of_le (by omega)
        rw [e1, e2, List.append_nil, ← List.flatten_append] at hat'
        have hrun := run_append_room' (ty := ty) E h2 hd2 (a := ⟨bi.B, bi.o + ix * bi.sz, none⟩) (sLen := n) (sCap := cap) hlen hnv hroom (by rw [addr_add]; exact hst)
        refine ⟨_, _, _, hrun, ?_, hu.hrel hH (brel_rows (by simp [hgg]) rfl (setRow_heap w bi.B cur _ ce _ hcur) ?_ hfr hln ?_ hat'), hsp⟩
        · refine .slice (bi := ⟨bi.g + 1, bi.B, bi.o + ix * bi.sz, bi.sz, bi.cs⟩) (by simp [Ctx.set]) (by simp only; omega) hroom (fun _ => ⟨fun _ => by simp, ?_⟩)
          simp only [Nat.zero_add]
          omega
        · simp only [List.size_toArray, List.length_append, List.length_take, List.length_drop, Array.length_toList, ← hnl, hfn]
          omega
        · simp only [List.length_append, hlen1]
          rw [Nat.add_mul] 
          omega
      · obtain ⟨os, ho1, ho2, ho3, ho4⟩ := hold.values
        have hold' : (Builtin.firstCells bi.sz n (.slice (some a) n cap)).run P w.drew = .ok os.toArray w.drew := by
          by_cases h0 : 0 < cap
          · have hae := ha1 h0
            subst hae
            have := run_loadCells_list (P := P) w.drew ⟨bi.B, bi.o + ix * bi.sz, none⟩ os (fun k u hk => by rw [addr_add]; exact ho2 k u hk)
            rw [ho1, hfo] at this
            simp only [Builtin.firstCells]
            exact this
          · have hn0 : n = 0 := by omega
            subst hn0
            have : os = [] := List.eq_nil_of_length_eq_zero (by rw [ho1, hfo]; simp)
            subst this
            simp [Builtin.firstCells, loadCells, loadCellsFrom]
        have hg' := run_append_grow' (ty := ty) E h2 hd2 (base := some a) (sLen := n) (sCap := cap) hlen hold' hnv' (by omega) hfit (roomLen _ hfit)
        have hge := grownCap_ge w (n + (row :: rest).length) cap e
        generalize grownCap w (n + (row :: rest).length) cap e = ncap at hg' hge
        rw [← List.append_assoc] at hg'
        have hvall : VRels X w ((rs.drop ix).take n ++ row :: rest).flatten (os ++ nv') := by
          rw [List.flatten_append]
          exact ho3.append ⟨hnr'.1, fun i c v a b => (hnr'.2 i c v a b).drawn (n := w.drawn)⟩
        have hokall : okRow ((rs.drop ix).take n ++ row :: rest).flatten = true := by
          rw [List.flatten_append]
          unfold okRow at hok ⊢
          rw [List.all_append, hok, Bool.and_true, List.all_eq_true]
          intro x hx
          obtain ⟨k, hk⟩ := List.mem_iff_getElem?.1 hx
          obtain ⟨_, _, h, _⟩ := hold k x hk
          exact h
        let bi' : BI := ⟨bi.g + 1, w.heap.size, 0, bi.sz, ncap * bi.sz⟩
        have hzl : (Builtin.zeroCells z.cells (ncap - (n + (row :: rest).length))).toList.length = (ncap - (n + (row :: rest).length)) * bi.sz := by rw [Array.length_toList, size_zc, E.zsize]
        have hos : (os ++ nv').length = (n + (row :: rest).length) * bi.sz := by
          rw [List.length_append, ho1, hfo, ← hnr'.1, hfn, Nat.add_mul]
        have hcells : ((os ++ nv') ++ (Builtin.zeroCells z.cells (ncap - (n + (row :: rest).length))).toList).length = ncap * bi.sz := by
          rw [List.length_append, hos, hzl, ← Nat.add_mul]
          congr 1
          omega
        have hu : Upd X w r bi bi' (w.drew.alloc (.cells ((os ++ nv') ++ (Builtin.zeroCells z.cells (ncap - (n + (row :: rest).length))).toList).toArray e)) :=
          { was := hb, size := by simp, os := rfl, tape := rfl, output := rfl, others := fun b h _ => heap_alloc_old w.drew _ b h
            later := .inr (by simp [bi']), place := .inr (Nat.le_refl _), lt := by simp [bi'] }
        have hsp := hu.stp hH.own
        have hnew := heap_alloc_new w.drew (.cells ((os ++ nv') ++ (Builtin.zeroCells z.cells (ncap - (n + (row :: rest).length))).toList).toArray e)
        refine ⟨_, _, _, hg', ?_, hu.hrel hH (brel_rows (by simp [bi', hgg]) rfl hnew (by simpa [bi'] using hcells) (.inl rfl) hln ?_ ?_), hsp⟩
        · refine .slice (bi := bi') (by simp [Ctx.set]) (by simp [bi', hgg]) hge (fun _ => ⟨fun _ => by simp [bi'], by simp [bi']⟩)
        · simp only [bi', List.length_append, hlen1, Nat.zero_add]
          exact Nat.mul_le_mul_right _ hge
        · intro k c hk
          have hkl := (List.getElem?_eq_some_iff.1 hk).1
          rw [hvall.1] at hkl
          obtain ⟨v, hv'⟩ : ∃ v, (os ++ nv')[k]? = some v := ⟨(os ++ nv')[k]'hkl, by simp⟩
          refine ⟨v, ?_, ?_, (hvall.2 k c v hk hv').step hH hsp⟩
          · have hce := cell_of_row _ _ k _ _ _ hnew
            simp only [bi', Nat.zero_add]
            refine hce.trans ?_
            rw [List.getElem?_toArray]
            rw [List.getElem?_append_left hkl]
            exact hv'
          · exact (List.all_eq_true.1 hokall) c (List.mem_of_getElem? hk)

end Go.Ab
