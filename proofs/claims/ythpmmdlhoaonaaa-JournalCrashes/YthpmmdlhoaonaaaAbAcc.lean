/-
  Accumulators: slices that begin as nil or as the call's own, and grow by appends.
  Conditions: none.
-/
import Derived.Test.YthpmmdlhoaonaaaAbOwn
namespace Go.Ab

theorem W_app {H : Heap} {r g sz b : Nat} {rs news : List Row} {x : AV} {K : AV × Heap → Prop} (hb : H[r]? = some (.rows g sz rs)) (hx : elems H x = some news) (hl : ∀ row ∈ news, row.length = sz) (hroom : (rs.length + news.length) * b ≤ roomB)
    (k : ∀ g', K (.slice r g' 0 (rs.length + news.length), H.set r (.rows g' sz (rs ++ news)))) : W (appendAV H sz b (.slice r g 0 rs.length) x) K := by
  by_cases hne : news = []
  · subst hne
    refine ⟨_, append_zero hb hx (by simpa using hroom), ?_⟩
    have hlt := (List.getElem?_eq_some_iff.1 hb).1
    have hset : H.set r (.rows g sz rs) = H := by
      apply List.ext_getElem?
      intro i
      by_cases hk : r = i
      · subst hk; rw [List.getElem?_set_self hlt, hb]
      · rw [List.getElem?_set_ne hk]
    have := k g
    simpa [hset] using this
  · exact ⟨_, append_some hb hx hl hroom hne, k (g + 1)⟩

/-- A slice that is nil as long as it is empty, and lies behind H0 from then on. -/
def Acc1 (H0 : Heap) (sz : Nat) (l : List Row) (c : AV) (H : Heap) : Prop :=
  (l = [] ∧ c = .nils ∧ H = H0) ∨ ∃ g, c = .slice H0.length g 0 l.length ∧ H = H0 ++ [.rows g sz l]

theorem Acc1.nil {H0 : Heap} {sz : Nat} : Acc1 H0 sz [] .nils H0 := .inl ⟨rfl, rfl, rfl⟩

theorem Acc1.append {H0 H : Heap} {sz b : Nat} {l news : List Row} {c x : AV} (h : Acc1 H0 sz l c H) (hx : elems H x = some news) (hl : ∀ row ∈ news, row.length = sz) (hroom : (l.length + news.length) * b ≤ roomB) {K : AV × Heap → Prop}
    (k : ∀ c' H', Acc1 H0 sz (l ++ news) c' H' → K (c', H')) : W (appendAV H sz b c x) K := by
  rcases h with ⟨rfl, rfl, rfl⟩ | ⟨g, rfl, rfl⟩
  · cases news with
    | nil => exact ⟨_, append_nil0 hx, k _ _ (.inl ⟨rfl, rfl, rfl⟩)⟩
    | cons row rest => exact ⟨_, append_nil hx hl (by simpa using hroom), k _ _ (.inr ⟨0, by simp, by simp⟩)⟩
  · refine W_app (by simp) hx hl hroom fun g' => k _ _ (.inr ⟨g', by simp, by simp⟩)

theorem Acc1.grown {H0 H : Heap} {sz : Nat} {l : List Row} {c : AV} (h : Acc1 H0 sz l c H) : ∃ N, H = H0 ++ N := by
  rcases h with ⟨rfl, rfl, rfl⟩ | ⟨g, rfl, rfl⟩
  · exact ⟨[], (List.append_nil _).symm⟩
  · exact ⟨_, rfl⟩

theorem Acc1.len {H0 H : Heap} {sz : Nat} {l : List Row} {c : AV} (h : Acc1 H0 sz l c H) : lenAV H 1 c = some l.length := by
  rcases h with ⟨rfl, rfl, rfl⟩ | ⟨g, rfl, rfl⟩ <;> rfl

theorem Acc1.elems {H0 H : Heap} {sz : Nat} {l : List Row} {c : AV} (h : Acc1 H0 sz l c H) : elems H c = some l := by
  rcases h with ⟨rfl, rfl, rfl⟩ | ⟨g, rfl, rfl⟩
  · rfl
  · simp [Ab.elems, Heap.rowsOf, req]

/-- The index of an element. -/
theorem Acc1.iaddr {H0 H : Heap} {sz : Nat} {l : List Row} {c : AV} (h : Acc1 H0 sz l c H) {k : Int} {row : Row} (h0 : 0 ≤ k) (hr : l[k.toNat]? = some row) (hl : row.length = sz) : ∃ p, iaddrAV H sz c k = some p ∧ ∀ j g v, cut row j g = some v → ∀ q, faddrAV j p = some q → loadAV H g q = some v := by
  have hlt := (List.getElem?_eq_some_iff.1 hr).1
  rcases h with ⟨rfl, rfl, rfl⟩ | ⟨g, rfl, rfl⟩
  · simp at hr
  · refine ⟨_, iaddr_s (sz := sz) (g := g) (rs := l) (row := row) (by simp) h0 (by omega) (by simpa using hr) hl, fun j gg v hc q hq => ?_⟩
    simp [faddrAV] at hq
    subst hq
    exact load_s (sz := sz) (rs := l) (row := row) (by simp) (by simpa using hr) hc

/-- What is left of it as a plain immutable slice. -/
theorem Acc1.freeze {H0 H : Heap} {sz : Nat} {l : List Row} {c : AV} (h : Acc1 H0 sz l c H) (hs : ∀ row ∈ l, row.length = sz) (hp : Plain l) : CV 0 H [] c (.islice l) := by
  rcases h with ⟨rfl, rfl, rfl⟩ | ⟨g, rfl, rfl⟩
  · exact .nil0
  · have : Own (H0 ++ [.rows g sz l]) H0.length sz (.slice H0.length g 0 l.length) l := ⟨g, 0, l.length, l, rfl, by simp, by simp, by simp, hs⟩
    exact this.freeze hp

/-- Plain lists of values that hold nothing of the call's own. -/
theorem plain_of {l : List Row} (h : ∀ row ∈ l, ∀ c ∈ row, c.sc = true ∧ Cl 0 c) : Plain l := h

theorem fin_acc {H0 H : Heap} {sz : Nat} {l : List Row} {c : AV} (h : Acc1 H0 sz l c H) (hs : ∀ row ∈ l, row.length = sz) (hp : Plain l) : Fin [] c H (.islice l) [] := fin_drop (h.freeze hs hp)

/-! ### lists of values, one by one -/
def CVs (n : Nat) (J : Heap) (ks : List Nat) (cs cs' : List AV) : Prop := cs'.length = cs.length ∧ ∀ (i : Nat) c c', cs[i]? = some c → cs'[i]? = some c' → CV n J ks c c'
def Cls (n : Nat) (cs : List AV) : Prop := ∀ (i : Nat) c, cs[i]? = some c → Cl n c

section
variable {n : Nat} {J : Heap} {ks : List Nat} {c c' : AV} {cs cs' : List AV}
theorem CVs.nil : CVs n J ks [] [] := ⟨rfl, by simp⟩
theorem CVs.cons (h : CV n J ks c c') (hs : CVs n J ks cs cs') : CVs n J ks (c :: cs) (c' :: cs') := by
  refine ⟨by simp [hs.1], fun i a b h1 h2 => ?_⟩
  cases i with
  | zero => simp at h1 h2; subst h1 h2; exact h
  | succ i => exact hs.2 i a b (by simpa using h1) (by simpa using h2)
theorem CVs.agg (h : CVs n J ks cs cs') : CV n J ks (.agg cs) (.agg cs') := .agg h.1 h.2
theorem CVs.tup (h : CVs n J ks cs cs') : CV n J ks (.tup cs) (.tup cs') := .tup h.1 h.2
theorem Cls.nil : Cls n [] := by intro i c h; simp at h
theorem Cls.cons (h : Cl n c) (hs : Cls n cs) : Cls n (c :: cs) := by
  intro i a h1
  cases i with
  | zero => simp at h1; subst h1; exact h
  | succ i => exact hs i a (by simpa using h1)
theorem Cls.agg (h : Cls n cs) : Cl n (.agg cs) := .agg h
theorem Cls.tup (h : Cls n cs) : Cl n (.tup cs) := .tup h
end

/-- A guarded call of a function that leaves the heap as it was. -/
theorem gdG_call {C : CallR} {p : Prop} {f : Nat} {args : List AV} {H : Heap} {v : AV} {k : AV → Heap → Prop} (h : p → C f args H v H) (hk : k (gsel p v) H) : gdG p (fun k => callK C f args H k) H k :=
  gdG_of v (fun hp _ hkk => ⟨v, H, h hp, hkk⟩) hk

theorem own_bytes {H : Heap} {r g : Nat} {b : List UInt8} (hr : H[r]? = some (.rows g 1 (rowsU8 b))) : Own H r 1 (.slice r g 0 b.length) (rowsU8 b) := ⟨g, 0, b.length, rowsU8 b, rfl, hr, by simp, by simp [List.take_of_length_le], rowsU8_row b⟩

/-- An append of bytes to nil. -/
theorem W_app_nil {H : Heap} {b : List UInt8} {K : AV × Heap → Prop} {x : AV} (hx : elems H x = some (rowsU8 b)) (hroom : b.length ≤ roomB) (k : ∀ c H', Acc1 H 1 (rowsU8 b) c H' → K (c, H')) : W (appendAV H 1 1 .nils x) K :=
  Acc1.nil.append hx (rowsU8_row b) (by simpa using hroom) (by simpa using k)

/-- A byte, as a number. -/
def gb (b : List UInt8) (i : Nat) : Nat := (b.getD i 0).toNat
theorem gb_lt (b : List UInt8) (i : Nat) : gb b i < 256 := (b.getD i 0).toNat_lt
@[simp] theorem rowsU8_at {b : List UInt8} {i : Nat} (h : i < (rowsU8 b).length) : (rowsU8 b)[i] = [.int .u8 (gb b i : Nat)] := by
  simp at h
  simp [rowsU8, gb, h]

theorem get_u8 {b : List UInt8} {i : Nat} (h : i < b.length) : (rowsU8 b)[i]? = some [.int .u8 (b.getD i 0).toNat] := by
  simp [rowsU8, h]

theorem iaddr_is {H : Heap} {sz : Nat} {rows : List Row} {n : Int} : iaddrAV H sz (.islice rows) n = req (0 ≤ n ∧ n < (rows.length : Int)) (rows[n.toNat]?.bind fun row => req (row.length = sz) (some (.iptr rows n.toNat 0))) := rfl
theorem iaddr_sl {H : Heap} {sz r g i len : Nat} {n : Int} : iaddrAV H sz (.slice r g i len) n = req (0 ≤ n ∧ n < (len : Int)) ((H.row r g (i + n.toNat)).bind fun row => req (row.length = sz) (some (.ptr r g (i + n.toNat) 0))) := rfl

theorem fin_bool {H : Heap} {x y : Bool} (h : x = y) : Fin [] (.bool x) H (.bool y) [] := by subst h; exact fin_drop (.refl .bool)
theorem fin_int {H : Heap} {k : IntKind} {x y : Int} (h : x = y) : Fin [] (.int k x) H (.int k y) [] := by subst h; exact fin_drop (.refl .int)

theorem fin_bool_tmp {H J : Heap} {x y : Bool} (h : x = y) : Fin H (.bool x) (H ++ J) (.bool y) H := by subst h; exact fin_tmp rfl (fun r b h => .inl h) (.refl .bool)
theorem not_u8 {x : Nat} (h : x < 256) : wrp .u8 ((toU .u8 (x : Int) ^^^ mask .u8 : Nat) : Int) = 255 - (x : Int) := by
  have e : toU .u8 (x : Int) = x := by rw [toUN_u8]; exact Nat.mod_eq_of_lt h
  rw [e]
  have h2 : ∀ x : _root_.Fin 256, x.val ^^^ 255 = 255 - x.val := by decide +kernel
  have h3 := h2 ⟨x, h⟩
  simp only at h3
  rw [show mask .u8 = 255 from rfl, h3, wrp_u8 (by omega)]
  omega

/-- A copy over a whole slice of the call's own. -/
theorem copy_all {H : Heap} {r g sz n : Nat} {rs news : List Row} {x : AV} (hb : H[r]? = some (.rows g sz rs)) (hx : Ab.elems H x = some news) (hl : ∀ row ∈ news, row.length = sz) (hn : news.length = n) (hr : rs.length = n) :
    copyAV H sz (.slice r g 0 n) x = some (.int .i64 (n : Nat), H.set r (.rows g sz news)) := by
  have hblk : H.blkOf r g = some (sz, rs) := blkOf_of hb
  simp only [copyAV, hx, Option.bind_some, req, if_pos hl, hblk]
  rw [if_pos ⟨trivial, by omega⟩]
  have e : min news.length n = n := by omega
  rw [e, List.take_zero, List.nil_append, List.take_of_length_le (by omega), Nat.zero_add, List.drop_of_length_le (by omega), List.append_nil]

/-! ### the heap told anew, some blocks kept -/
theorem bcv_plain {n : Nat} {J : Heap} {ks : List Nat} {g s : Nat} {rs : List Row} (hl : ∀ row ∈ rs, row.length = s) (hp : Plain rs) : BCV n J ks (.rows g s rs) (.rows g s rs) :=
  .rows rfl hl fun i row j c h1 h2 => ⟨⟨row, c, h1, h2, .refl ((hp row (List.mem_of_getElem? h1) c (List.mem_of_getElem? h2)).2.mono (Nat.zero_le _))⟩, (hp row (List.mem_of_getElem? h1) c (List.mem_of_getElem? h2)).1⟩

theorem conv_pick1 {J : Heap} {σ σ' : Env} {k g s : Nat} {rs : List Row} (hk : J[k]? = some (.rows g s rs)) (hl : ∀ row ∈ rs, row.length = s) (hp : Plain rs) (hσ : ∀ p ∈ σ', CV 0 J [k] (σ.get p.1) p.2) : Conv [] σ J σ' [.rows g s rs] := by
  refine Conv.of (H0 := []) (Hm := []) (J := J) (J' := [.rows g s rs]) (ks := [k]) ⟨rfl, by simp, by simp, rfl, fun i k' b' h1 h2 => .inr ?_⟩ (env_cv hσ)
  match i with
  | 0 => simp at h1 h2; subst h1 h2; exact ⟨_, hk, bcv_plain hl hp⟩
  | i + 1 => simp at h1

theorem conv_pick2 {J : Heap} {σ σ' : Env} {k g s k2 g2 s2 : Nat} {rs rs2 : List Row} (hk : J[k]? = some (.rows g s rs)) (hl : ∀ row ∈ rs, row.length = s) (hp : Plain rs) (hk2 : J[k2]? = some (.rows g2 s2 rs2)) (hl2 : ∀ row ∈ rs2, row.length = s2) (hp2 : Plain rs2) (hne : k ≠ k2)
    (hσ : ∀ p ∈ σ', CV 0 J [k, k2] (σ.get p.1) p.2) : Conv [] σ J σ' [.rows g s rs, .rows g2 s2 rs2] := by
  refine Conv.of (H0 := []) (Hm := []) (J := J) (J' := [.rows g s rs, .rows g2 s2 rs2]) (ks := [k, k2]) ⟨rfl, by simp, by simpa using hne, rfl, fun i k' b' h1 h2 => .inr ?_⟩ (env_cv hσ)
  match i with
  | 0 => simp at h1 h2; subst h1 h2; exact ⟨_, hk, bcv_plain hl hp⟩
  | 1 => simp at h1 h2; subst h1 h2; exact ⟨_, hk2, bcv_plain hl2 hp2⟩
  | i + 2 => simp at h1

theorem cv_slice {J : Heap} {ks : List Nat} {i k g a m : Nat} (h : ks[i]? = some k) : CV 0 J ks (.slice k g a m) (.slice i g a m) := by
  have := CV.slice (n := 0) (J := J) (g := g) (a := a) (m := m) h
  simpa using this
theorem cv_ptr {J : Heap} {ks : List Nat} {i k g a m : Nat} (h : ks[i]? = some k) : CV 0 J ks (.ptr k g a m) (.ptr i g a m) := by
  have := CV.ptr (n := 0) (J := J) (g := g) (a := a) (b := m) h
  simpa using this

/-- A slice that is nil as long as it is empty, wherever it lies. -/
def AccL (sz : Nat) (l : List Row) (c : AV) (H : Heap) : Prop := (l = [] ∧ c = .nils) ∨ ∃ r g, c = .slice r g 0 l.length ∧ H[r]? = some (.rows g sz l)

theorem AccL.freeze {H : Heap} {sz : Nat} {l : List Row} {c : AV} (h : AccL sz l c H) (hs : ∀ row ∈ l, row.length = sz) (hp : Plain l) : CV 0 H [] c (.islice l) := by
  rcases h with ⟨rfl, rfl⟩ | ⟨r, g, rfl, hr⟩
  · exact .nil0
  · have : Own H r sz (.slice r g 0 l.length) l := ⟨g, 0, l.length, l, rfl, hr, by simp, by simp, hs⟩
    exact this.freeze hp
theorem AccL.len {H : Heap} {sz : Nat} {l : List Row} {c : AV} (h : AccL sz l c H) : lenAV H 1 c = some l.length := by
  rcases h with ⟨rfl, rfl⟩ | ⟨r, g, rfl, hr⟩ <;> rfl

end Go.Ab
