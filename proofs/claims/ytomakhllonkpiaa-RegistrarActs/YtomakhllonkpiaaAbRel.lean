/-
  How abstract values and heaps stand to the model's: the relation, what a step may change, and how the relation is kept.
  Conditions: none.
-/
import Derived.Test.YtomakhllonkpiaaAbCore
import Derived.Laws.World
import Derived.Laws.Sem
import Derived.Laws.Rows
namespace Go.Ab

/-- Where an abstract block lies. -/
structure BI where
  g : Nat
  B : Nat
  o : Nat
  sz : Nat
  cs : Nat

structure Ctx where
  blk : Nat → Option BI
  owned : Nat → Prop
  /-- Where new blocks may be numbered from. -/
  top : Nat

inductive VRel (X : Ctx) (w : World) : AV → Value → Prop
  | undef {v} : VRel X w .undef v
  | int {k n} : VRel X w (.int k n) (.int k n)
  | bool {b} : VRel X w (.bool b) (.bool b)
  | str {s : List UInt8} {t : ByteArray} : t.data.toList = s → VRel X w (.str s) (.string t)
  | nilp : VRel X w .nilp (.pointer none)
  | ptr {r g i j a bi} : X.blk r = some bi → g ≤ bi.g → (g = bi.g → a = ⟨bi.B, bi.o + i * bi.sz + j, none⟩) → VRel X w (.ptr r g i j) (.pointer (some a))
  | iptr {rows : List Row} {i j b o s} (f : Nat → Nat → Value) : (∀ row ∈ rows, row.length = s) →
      (∀ (i : Nat) row (j : Nat) c, rows[i]? = some row → row[j]? = some c → w.cell? ⟨b, o + i * s + j, none⟩ = some (f i j) ∧ c.sc = true) →
      (∀ (i : Nat) row (j : Nat) c, rows[i]? = some row → row[j]? = some c → VRel X w c (f i j)) → ¬X.owned b → b < w.heap.size →
      VRel X w (.iptr rows i j) (.pointer (some ⟨b, o + i * s + j, none⟩))
  | nils : VRel X w .nils (.slice none 0 0)
  | slice {r g i n a cap bi} : X.blk r = some bi → g ≤ bi.g → n ≤ cap →
      (g = bi.g → (0 < cap → a = ⟨bi.B, bi.o + i * bi.sz, none⟩) ∧ bi.o + (i + cap) * bi.sz ≤ bi.cs) → VRel X w (.slice r g i n) (.slice (some a) n cap)
  | islice0 : VRel X w (.islice []) (.slice none 0 0)
  | islice {rows : List Row} {n a cap s} (f : Nat → Nat → Value) : rows.length = n → n ≤ cap → (∀ row ∈ rows, row.length = s) →
      (∀ (i : Nat) row (j : Nat) c, rows[i]? = some row → row[j]? = some c → w.cell? ⟨a.block, a.off + i * s + j, none⟩ = some (f i j) ∧ c.sc = true) →
      (∀ (i : Nat) row (j : Nat) c, rows[i]? = some row → row[j]? = some c → VRel X w c (f i j)) →
      (0 < n → ¬X.owned a.block ∧ a.spot = none ∧ a.block < w.heap.size) → VRel X w (.islice rows) (.slice (some a) n cap)
  | agg {cs : List AV} {vs : List Value} : cs.length = vs.length → (∀ (i : Nat) c v, cs[i]? = some c → vs[i]? = some v → VRel X w c v) → VRel X w (.agg cs) (.agg vs.toArray)
  | tup {cs : List AV} {vs : List Value} : cs.length = vs.length → (∀ (i : Nat) c v, cs[i]? = some c → vs[i]? = some v → VRel X w c v) → VRel X w (.tup cs) (.tuple vs.toArray)
  | func {f} {as bs : List AV} {us vs : List Value} : as.length = us.length → bs.length = vs.length → (∀ (i : Nat) c v, as[i]? = some c → us[i]? = some v → VRel X w c v) →
      (∀ (i : Nat) c v, bs[i]? = some c → vs[i]? = some v → VRel X w c v) → VRel X w (.func f as bs) (.func (.func f) us.toArray vs.toArray)
  | nilf : VRel X w .nilf .nilFunc
  | nilmap : VRel X w .nilmap (.map none)
  | map {r b bi} : X.blk r = some bi → (bi.g = 0 → b = bi.B) → VRel X w (.map r) (.map (some b))
  | yld {r b bi} : X.blk r = some bi → (bi.g = 0 → b = bi.B) → VRel X w (.yld r) (.func (.yield b) #[] #[])
  | iface {t c v} : VRel X w c v → VRel X w (.iface t c) (.iface t v)
  | nilI : VRel X w .nilI .nilIface

def VRels (X : Ctx) (w : World) (cs : List AV) (vs : List Value) : Prop :=
  cs.length = vs.length ∧ ∀ (i : Nat) c v, cs[i]? = some c → vs[i]? = some v → VRel X w c v

structure ERelE (X : Ctx) (w : World) (e : AV × AV × Nat) (m : MapEntry) : Prop where
  key : VRel X w e.1 m.key
  val : VRel X w e.2.1 m.val
  born : e.2.2 = m.born

/-- No cell of the block is frozen; what lies behind the last may be. -/
def Frz (cs lo hi : Nat) : Prop := lo = hi ∨ cs ≤ lo

theorem frz_ok {cs lo hi : Nat} (h : Frz cs lo hi) : ∀ x, x < cs → ¬(lo ≤ x ∧ x < hi) := by
  intro x hx
  rcases h with h | h <;> omega

inductive BRel (X : Ctx) (w : World) (bi : BI) : ABlk → Prop
  | rows {g s rs c e lo hi} : g = bi.g → s = bi.sz → w.heap[bi.B]? = some (.cells c e (lo, hi)) → c.size = bi.cs → Frz bi.cs lo hi →
      (∀ row ∈ rs, row.length = bi.sz) → bi.o + rs.length * bi.sz ≤ bi.cs →
      (∀ (i : Nat) row (j : Nat) c, rs[i]? = some row → row[j]? = some c → ∃ v, w.cell? ⟨bi.B, bi.o + i * bi.sz + j, none⟩ = some v ∧ c.sc = true ∧ VRel X w c v) →
      BRel X w bi (.rows g s rs)
  | map {es clock} {ms : List MapEntry} : bi.g = 0 → w.heap[bi.B]? = some (.map ms.toArray clock) → es.length = ms.length →
      (∀ (i : Nat) e m, es[i]? = some e → ms[i]? = some m → ERelE X w e m) → BRel X w bi (.map es clock)
  | lrec {σ0 : List (Nat × AV)} {l : Loop} : bi.g = 0 → w.heap[bi.B]? = some (.loop l) → (∀ t, VRel X w (Env.get σ0 t) (l.tmps.getD t undef)) → BRel X w bi (.lrec σ0 l)

structure HRel (X : Ctx) (H : Heap) (w : World) : Prop where
  blk : ∀ r bi, X.blk r = some bi → ∃ b, H[r]? = some b ∧ BRel X w bi b
  inj : ∀ r r' bi bi', X.blk r = some bi → X.blk r' = some bi' → bi.B = bi'.B → r = r'
  own : ∀ r bi, X.blk r = some bi → X.owned bi.B
  old : ∀ b, X.owned b → b < w.heap.size
  top : X.top ≤ H.length

/-- What a piece of a run may change. -/
structure Stp (X : Ctx) (w : World) (X' : Ctx) (w' : World) : Prop where
  size : w.heap.size ≤ w'.heap.size
  os : w'.os = w.os
  tape : w'.tape = w.tape
  output : w'.output = w.output
  frame : ∀ b, b < w.heap.size → (∀ r bi, X.blk r = some bi → bi.B ≠ b) → w'.heap[b]? = w.heap[b]?
  mono : ∀ r bi, X.blk r = some bi → ∃ bi', X'.blk r = some bi' ∧ bi.g ≤ bi'.g ∧ (bi'.g = bi.g → bi' = bi)
  owned : ∀ b, X.owned b → X'.owned b
  fresh : ∀ r bi', X'.blk r = some bi' → w.heap.size ≤ bi'.B ∨ ∃ bi, X.blk r = some bi ∧ bi.B = bi'.B
  new : ∀ b, X'.owned b → X.owned b ∨ w.heap.size ≤ b
  top : X'.top = X.top
  later : ∀ r bi', X'.blk r = some bi' → (∃ bi, X.blk r = some bi) ∨ X.top ≤ r

theorem Stp.refl (X : Ctx) (w : World) : Stp X w X w :=
  ⟨Nat.le_refl _, rfl, rfl, rfl, fun _ _ _ => rfl, fun _ bi h => ⟨bi, h, Nat.le_refl _, fun _ => rfl⟩, fun _ h => h, fun _ bi h => .inr ⟨bi, h, rfl⟩, fun _ h => .inl h, rfl, fun _ bi h => .inl ⟨bi, h⟩⟩

theorem Stp.trans {X X1 X2 : Ctx} {w w1 w2 : World} (h : Stp X w X1 w1) (k : Stp X1 w1 X2 w2) : Stp X w X2 w2 where
  size := Nat.le_trans h.size k.size
  os := k.os.trans h.os
  tape := k.tape.trans h.tape
  output := k.output.trans h.output
  frame b hb hn := by
    rw [k.frame b (Nat.lt_of_lt_of_le hb h.size) ?_, h.frame b hb hn]
    intro r bi1 hr1 e
    rcases h.fresh r bi1 hr1 with hf | ⟨bi, hr, e2⟩
    · omega
    · exact hn r bi hr (e2.trans e)
  mono r bi hr := by
    obtain ⟨b1, h1, l1, e1⟩ := h.mono r bi hr
    obtain ⟨b2, h2, l2, e2⟩ := k.mono r b1 h1
    refine ⟨b2, h2, Nat.le_trans l1 l2, fun e => ?_⟩
    have hg : b1.g = bi.g := by omega
    rw [e2 (by omega), e1 hg]
  owned b hb := k.owned b (h.owned b hb)
  fresh r bi2 hr2 := by
    rcases k.fresh r bi2 hr2 with hf | ⟨b1, hr1, e1⟩
    · exact .inl (Nat.le_trans h.size hf)
    · rcases h.fresh r b1 hr1 with hf | ⟨bi, hr, e⟩
      · exact .inl (e1 ▸ hf)
      · exact .inr ⟨bi, hr, e.trans e1⟩
  new b hb := by
    rcases k.new b hb with h1 | h1
    · exact h.new b h1
    · exact .inr (Nat.le_trans h.size h1)
  top := k.top.trans h.top
  later r bi2 hr2 := by
    rcases k.later r bi2 hr2 with ⟨b1, h1⟩ | h1
    · exact h.later r b1 h1
    · exact .inr (h.top ▸ h1)

/-- A world that differs in draws alone. -/
theorem Stp.drawn (X : Ctx) (w : World) (n : Nat) : Stp X w X { w with drawn := n } :=
  ⟨Nat.le_refl _, rfl, rfl, rfl, fun _ _ _ => rfl, fun _ bi h => ⟨bi, h, Nat.le_refl _, fun _ => rfl⟩, fun _ h => h, fun _ bi h => .inr ⟨bi, h, rfl⟩, fun _ h => .inl h, rfl, fun _ bi h => .inl ⟨bi, h⟩⟩

theorem Stp.cell {X X' : Ctx} {w w' : World} {H : Heap} (hH : HRel X H w) (h : Stp X w X' w') {a : Addr} {v : Value} (hn : ¬X.owned a.block) (hc : w.cell? a = some v) :
    w'.cell? a = some v := by
  have hb := World.block_lt_of_cell? w a hc
  have := h.frame a.block hb (fun r bi hr e => hn (e ▸ hH.own r bi hr))
  simpa [World.cell?, this] using hc

theorem Stp.notOwned {X X' : Ctx} {w w' : World} (h : Stp X w X' w') {b : Nat} (hn : ¬X.owned b) (hb : b < w.heap.size) : ¬X'.owned b := by
  intro hx
  rcases h.new b hx with h1 | h1
  · exact hn h1
  · omega

theorem VRel.step {X X' : Ctx} {w w' : World} {H : Heap} (hH : HRel X H w) (h : Stp X w X' w') {c : AV} {v : Value} (hv : VRel X w c v) : VRel X' w' c v := by
  induction hv with
  | undef => exact .undef
  | int => exact .int
  | bool => exact .bool
  | str h => exact .str h
  | nilp => exact .nilp
  | ptr hr hg ha =>
    obtain ⟨bi', hr', hg', he⟩ := h.mono _ _ hr
    exact .ptr hr' (Nat.le_trans hg hg') (fun e => by
      have := he (by omega)
      subst this
      exact ha e)
  | iptr f hl hc _ hn hb ih =>
    refine .iptr f hl (fun i row j c h1 h2 => ?_) (fun i row j c h1 h2 => ih i row j c h1 h2) (h.notOwned hn hb) (Nat.lt_of_lt_of_le hb h.size)
    exact ⟨h.cell hH hn (hc i row j c h1 h2).1, (hc i row j c h1 h2).2⟩
  | nils => exact .nils
  | slice hr hg hn ha =>
    obtain ⟨bi', hr', hg', he⟩ := h.mono _ _ hr
    exact .slice hr' (Nat.le_trans hg hg') hn (fun e => by
      have := he (by omega)
      subst this
      exact ha e)
  | islice0 => exact .islice0
  | islice f hr hn hl hc _ ho ih =>
    refine .islice f hr hn hl (fun i row j c h1 h2 => ?_) (fun i row j c h1 h2 => ih i row j c h1 h2)
      (fun h0 => ⟨h.notOwned (ho h0).1 (ho h0).2.2, (ho h0).2.1, Nat.lt_of_lt_of_le (ho h0).2.2 h.size⟩)
    have h0 := ho (by have := (List.getElem?_eq_some_iff.1 h1).1; omega)
    exact ⟨h.cell hH h0.1 (hc i row j c h1 h2).1, (hc i row j c h1 h2).2⟩
  | agg hl hc ih => exact .agg hl (fun i c v h1 h2 => ih i c v h1 h2)
  | tup hl hc ih => exact .tup hl (fun i c v h1 h2 => ih i c v h1 h2)
  | func h1 h2 h3 h4 i3 i4 => exact .func h1 h2 (fun i c v a b => i3 i c v a b) (fun i c v a b => i4 i c v a b)
  | nilf => exact .nilf
  | nilmap => exact .nilmap
  | map hr hg =>
    obtain ⟨bi', hr', hg', he⟩ := h.mono _ _ hr
    exact .map hr' (fun e => by
      have := he (by omega)
      subst this
      exact hg e)
  | yld hr hg =>
    obtain ⟨bi', hr', hg', he⟩ := h.mono _ _ hr
    exact .yld hr' (fun e => by
      have := he (by omega)
      subst this
      exact hg e)
  | iface _ ih => exact .iface ih
  | nilI => exact .nilI

theorem VRels.step {X X' : Ctx} {w w' : World} {H : Heap} (hH : HRel X H w) (h : Stp X w X' w') {cs : List AV} {vs : List Value} (hv : VRels X w cs vs) : VRels X' w' cs vs :=
  ⟨hv.1, fun i c v h1 h2 => (hv.2 i c v h1 h2).step hH h⟩

/-- One block is turned (in place, or laid anew elsewhere); everything else stays. -/
structure Upd (X : Ctx) (w : World) (r : Nat) (bi bi' : BI) (w' : World) : Prop where
  was : X.blk r = some bi
  size : w.heap.size ≤ w'.heap.size
  os : w'.os = w.os
  tape : w'.tape = w.tape
  output : w'.output = w.output
  others : ∀ b, b < w.heap.size → b ≠ bi.B → w'.heap[b]? = w.heap[b]?
  later : bi' = bi ∨ bi.g < bi'.g
  place : bi'.B = bi.B ∨ w.heap.size ≤ bi'.B
  lt : bi'.B < w'.heap.size

def Ctx.set (X : Ctx) (r : Nat) (bi : BI) : Ctx := { blk := fun k => if k = r then some bi else X.blk k, owned := fun b => X.owned b ∨ b = bi.B, top := X.top }

theorem Upd.stp {X : Ctx} {w w' : World} {r : Nat} {bi bi' : BI} (u : Upd X w r bi bi' w') (hH : ∀ r bi, X.blk r = some bi → X.owned bi.B) : Stp X w (X.set r bi') w' where
  size := u.size
  os := u.os
  tape := u.tape
  output := u.output
  frame b hb hn := u.others b hb (fun e => hn r bi u.was e.symm)
  mono k bk hk := by
    by_cases e : k = r
    · subst e
      have e2 : bk = bi := by have := u.was; rw [hk] at this; exact Option.some.inj this
      subst e2
      refine ⟨bi', by simp [Ctx.set], ?_, ?_⟩
      · rcases u.later with e | e
        · rw [e]; exact Nat.le_refl _
        · omega
      · intro e
        rcases u.later with e2 | e2
        · exact e2
        · omega
    · exact ⟨bk, by simp [Ctx.set, e, hk], Nat.le_refl _, fun _ => rfl⟩
  owned b hb := .inl hb
  fresh k bk hk := by
    by_cases e : k = r
    · subst e
      simp [Ctx.set] at hk
      subst hk
      rcases u.place with e | e
      · exact .inr ⟨bi, u.was, e.symm⟩
      · exact .inl e
    · simp [Ctx.set, e] at hk
      exact .inr ⟨bk, hk, rfl⟩
  new b hb := by
    rcases hb with hb | hb
    · exact .inl hb
    · subst hb
      rcases u.place with e | e
      · exact .inl (e ▸ hH r bi u.was)
      · exact .inr e
  top := rfl
  later k bk hk := by
    by_cases e : k = r
    · subst e; exact .inl ⟨bi, u.was⟩
    · simp [Ctx.set, e] at hk
      exact .inl ⟨bk, hk⟩

theorem BRel.keep {X X' : Ctx} {w w' : World} {H : Heap} (hH : HRel X H w) (h : Stp X w X' w') {bi : BI} {b : ABlk} (hb : BRel X w bi b) (e : w'.heap[bi.B]? = w.heap[bi.B]?) : BRel X' w' bi b := by
  cases hb with
  | rows h1 hs h2 h3 h4 h5 h6 h7 =>
    refine .rows h1 hs (e.trans h2) h3 h4 h5 h6 (fun i row j c a b => ?_)
    obtain ⟨v, k1, k2, k3⟩ := h7 i row j c a b
    exact ⟨v, by simpa [World.cell?, e] using k1, k2, k3.step hH h⟩
  | map h1 h2 h3 h4 =>
    exact .map h1 (e.trans h2) h3 (fun i x m a b => ⟨(h4 i x m a b).key.step hH h, (h4 i x m a b).val.step hH h, (h4 i x m a b).born⟩)
  | lrec h1 h2 h3 => exact .lrec h1 (e.trans h2) (fun t => (h3 t).step hH h)

theorem Upd.hrel {X : Ctx} {H : Heap} {w w' : World} {r : Nat} {bi bi' : BI} (hH : HRel X H w) (u : Upd X w r bi bi' w') {b' : ABlk} (hb : BRel (X.set r bi') w' bi' b') :
    HRel (X.set r bi') (H.set r b') w' := by
  have hs := u.stp hH.own
  have hrl : r < H.length := by
    obtain ⟨b, h1, _⟩ := hH.blk r bi u.was
    exact (List.getElem?_eq_some_iff.1 h1).1
  refine ⟨fun k bk hk => ?_, fun k k' bk bk' hk hk' e => ?_, fun k bk hk => ?_, fun b hb => ?_, by simpa [Ctx.set] using hH.top⟩
  · by_cases e : k = r
    · subst e
      simp [Ctx.set] at hk
      subst hk
      exact ⟨b', by simp [hrl], hb⟩
    · simp [Ctx.set, e] at hk
      obtain ⟨b, h1, h2⟩ := hH.blk k bk hk
      refine ⟨b, by rw [List.getElem?_set_ne (fun h => e h.symm)]; exact h1, h2.keep hH hs ?_⟩
      have hlt := hH.old _ (hH.own k bk hk)
      exact u.others _ hlt (fun e2 => e (hH.inj k r bk bi hk u.was e2))
  · have aux : ∀ k bk, k ≠ r → (X.set r bi').blk k = some bk → X.blk k = some bk := fun k bk hne h => by simpa [Ctx.set, hne] using h
    have far : ∀ k bk, k ≠ r → X.blk k = some bk → bk.B ≠ bi'.B := fun k bk hne h e2 => by
      rcases u.place with e3 | e3
      · exact hne (hH.inj k r bk bi h u.was (e2.trans e3))
      · have := hH.old _ (hH.own k bk h); omega
    by_cases h1 : k = r <;> by_cases h2 : k' = r
    · rw [h1, h2]
    · subst h1
      simp [Ctx.set] at hk
      subst hk
      exact absurd e.symm (far k' bk' h2 (aux k' bk' h2 hk'))
    · subst h2
      simp [Ctx.set] at hk'
      subst hk'
      exact absurd e (far k bk h1 (aux k bk h1 hk))
    · exact hH.inj k k' bk bk' (aux k bk h1 hk) (aux k' bk' h2 hk') e
  · by_cases e : k = r
    · subst e
      simp [Ctx.set] at hk
      subst hk
      exact .inr rfl
    · simp [Ctx.set, e] at hk
      exact .inl (hH.own k bk hk)
  · rcases hb with hb | hb
    · exact Nat.lt_of_lt_of_le (hH.old b hb) u.size
    · subst hb; exact u.lt

/-- A new block. -/
structure New (X : Ctx) (w : World) (r : Nat) (bi : BI) (w' : World) : Prop where
  free : X.blk r = none
  top : X.top ≤ r
  size : w.heap.size ≤ w'.heap.size
  os : w'.os = w.os
  tape : w'.tape = w.tape
  output : w'.output = w.output
  others : ∀ b, b < w.heap.size → w'.heap[b]? = w.heap[b]?
  place : w.heap.size ≤ bi.B
  lt : bi.B < w'.heap.size

theorem New.stp {X : Ctx} {w w' : World} {r : Nat} {bi : BI} (u : New X w r bi w') : Stp X w (X.set r bi) w' where
  size := u.size
  os := u.os
  tape := u.tape
  output := u.output
  frame b hb hn := u.others b hb
  mono k bk hk := by
    have e : k ≠ r := fun e => by subst e; rw [u.free] at hk; cases hk
    exact ⟨bk, by simp [Ctx.set, e, hk], Nat.le_refl _, fun _ => rfl⟩
  owned b hb := .inl hb
  fresh k bk hk := by
    by_cases e : k = r
    · subst e
      simp [Ctx.set] at hk
      subst hk
      exact .inl u.place
    · simp [Ctx.set, e] at hk
      exact .inr ⟨bk, hk, rfl⟩
  new b hb := by
    rcases hb with hb | hb
    · exact .inl hb
    · subst hb; exact .inr u.place
  top := rfl
  later k bk hk := by
    by_cases e : k = r
    · subst e; exact .inr u.top
    · simp [Ctx.set, e] at hk
      exact .inl ⟨bk, hk⟩

theorem New.hrel {X : Ctx} {H : Heap} {w w' : World} {bi : BI} (hH : HRel X H w) (u : New X w H.length bi w') {b' : ABlk} (hb : BRel (X.set H.length bi) w' bi b') :
    HRel (X.set H.length bi) (H ++ [b']) w' := by
  have hs := u.stp
  refine ⟨fun k bk hk => ?_, fun k k' bk bk' hk hk' e => ?_, fun k bk hk => ?_, fun b hb => ?_, by have := hH.top; simp [Ctx.set]; omega⟩
  · by_cases e : k = H.length
    · subst e
      simp [Ctx.set] at hk
      subst hk
      exact ⟨b', by simp, hb⟩
    · simp [Ctx.set, e] at hk
      obtain ⟨b, h1, h2⟩ := hH.blk k bk hk
      have hlt := (List.getElem?_eq_some_iff.1 h1).1
      refine ⟨b, by rw [List.getElem?_append_left hlt]; exact h1, h2.keep hH hs ?_⟩
      exact u.others _ (hH.old _ (hH.own k bk hk))
  · have aux : ∀ k bk, k ≠ H.length → (X.set H.length bi).blk k = some bk → X.blk k = some bk := fun k bk hne h => by simpa [Ctx.set, hne] using h
    have far : ∀ k bk, X.blk k = some bk → bk.B ≠ bi.B := fun k bk h e2 => by
      have := hH.old _ (hH.own k bk h)
      have := u.place
      omega
    by_cases h1 : k = H.length <;> by_cases h2 : k' = H.length
    · rw [h1, h2]
    · subst h1
      simp [Ctx.set] at hk
      subst hk
      exact absurd e.symm (far k' bk' (aux k' bk' h2 hk'))
    · subst h2
      simp [Ctx.set] at hk'
      subst hk'
      exact absurd e (far k bk (aux k bk h1 hk))
    · exact hH.inj k k' bk bk' (aux k bk h1 hk) (aux k' bk' h2 hk') e
  · by_cases e : k = H.length
    · subst e
      simp [Ctx.set] at hk
      subst hk
      exact .inr rfl
    · simp [Ctx.set, e] at hk
      exact .inl (hH.own k bk hk)
  · rcases hb with hb | hb
    · exact Nat.lt_of_lt_of_le (hH.old b hb) u.size
    · subst hb; exact u.lt

theorem HRel.free {X : Ctx} {H : Heap} {w : World} (hH : HRel X H w) {r : Nat} (h : H.length ≤ r) : X.blk r = none := by
  cases e : X.blk r with
  | none => rfl
  | some bi =>
    obtain ⟨b, h1, _⟩ := hH.blk r bi e
    have := (List.getElem?_eq_some_iff.1 h1).1
    omega

/-- A world that differs in the count of draws alone. -/
theorem VRel.drawn {X : Ctx} {w : World} {n : Nat} {c : AV} {v : Value} (h : VRel X w c v) : VRel X { w with drawn := n } c v := by
  induction h with
  | undef => exact .undef
  | int => exact .int
  | bool => exact .bool
  | str h => exact .str h
  | nilp => exact .nilp
  | ptr h1 h2 h3 => exact .ptr h1 h2 h3
  | iptr f h1 h2 _ h4 h5 ih => exact .iptr f h1 h2 ih h4 h5
  | nils => exact .nils
  | slice h1 h2 h3 h4 => exact .slice h1 h2 h3 h4
  | islice0 => exact .islice0
  | islice f h1 h2 h3 h4 _ h6 ih => exact .islice f h1 h2 h3 h4 ih h6
  | agg h1 _ ih => exact .agg h1 ih
  | tup h1 _ ih => exact .tup h1 ih
  | func h1 h2 _ _ i3 i4 => exact .func h1 h2 i3 i4
  | nilf => exact .nilf
  | nilmap => exact .nilmap
  | map h1 h2 => exact .map h1 h2
  | yld h1 h2 => exact .yld h1 h2
  | iface _ ih => exact .iface ih
  | nilI => exact .nilI

theorem HRel.drawn {X : Ctx} {H : Heap} {w : World} {n : Nat} (h : HRel X H w) : HRel X H { w with drawn := n } :=
  ⟨fun r bi hr => by
    obtain ⟨b, h1, h2⟩ := h.blk r bi hr
    exact ⟨b, h1, h2.keep h (Stp.drawn X w n) rfl⟩, h.inj, h.own, h.old, h.top⟩

/-- A world in which all cells stay. -/
theorem VRel.cells {X : Ctx} {w w' : World} (hc : ∀ a v, w.cell? a = some v → w'.cell? a = some v) (hsz : w.heap.size ≤ w'.heap.size) {c : AV} {v : Value} (hv : VRel X w c v) : VRel X w' c v := by
  induction hv with
  | undef => exact .undef
  | int => exact .int
  | bool => exact .bool
  | str h => exact .str h
  | nilp => exact .nilp
  | ptr h1 h2 h3 => exact .ptr h1 h2 h3
  | iptr f h1 h2 _ h4 h5 ih => exact .iptr f h1 (fun i row j c a b => ⟨hc _ _ (h2 i row j c a b).1, (h2 i row j c a b).2⟩) ih h4 (by omega)
  | nils => exact .nils
  | slice h1 h2 h3 h4 => exact .slice h1 h2 h3 h4
  | islice0 => exact .islice0
  | islice f h1 h2 h3 h4 _ h6 ih => exact .islice f h1 h2 h3 (fun i row j c a b => ⟨hc _ _ (h4 i row j c a b).1, (h4 i row j c a b).2⟩) ih (fun h0 => ⟨(h6 h0).1, (h6 h0).2.1, by have := (h6 h0).2.2; omega⟩)
  | agg h1 _ ih => exact .agg h1 ih
  | tup h1 _ ih => exact .tup h1 ih
  | func h1 h2 _ _ i3 i4 => exact .func h1 h2 i3 i4
  | nilf => exact .nilf
  | nilmap => exact .nilmap
  | map h1 h2 => exact .map h1 h2
  | yld h1 h2 => exact .yld h1 h2
  | iface _ ih => exact .iface ih
  | nilI => exact .nilI

/-- A block that is nobody's and holds no cells is turned. -/
theorem Shut {X X0 : Ctx} {w w0 : World} {H : Heap} {r : Nat} {ds : Option (List Deferred)} {o : Obj} (hr : w.heap[r]? = some (.deferred ds)) (hn : ¬X.owned r) (h0 : w0.heap.size ≤ r) (hH : HRel X H w) (hs : Stp X0 w0 X w) :
    HRel X H { w with heap := w.heap.setIfInBounds r o } ∧ Stp X0 w0 X { w with heap := w.heap.setIfInBounds r o } ∧ ∀ c v, VRel X w c v → VRel X { w with heap := w.heap.setIfInBounds r o } c v := by
  have hne : ∀ b, b ≠ r → ({ w with heap := w.heap.setIfInBounds r o } : World).heap[b]? = w.heap[b]? := fun b hb => by simp [Array.getElem?_setIfInBounds_ne (Ne.symm hb)]
  have hcell : ∀ a v, w.cell? a = some v → ({ w with heap := w.heap.setIfInBounds r o } : World).cell? a = some v := by
    intro a v h
    have hb : a.block ≠ r := by
      intro e
      subst e
      simp [World.cell?, hr] at h
    simp only [World.cell?, hne _ hb] at h ⊢
    exact h
  have hv : ∀ c v, VRel X w c v → VRel X { w with heap := w.heap.setIfInBounds r o } c v := fun c v h => h.cells hcell (by simp)
  refine ⟨⟨fun k bi hk => ?_, hH.inj, hH.own, fun b hb => by simpa using hH.old b hb, hH.top⟩, ⟨by simpa using hs.size, hs.os, hs.tape, hs.output, fun b hb hx => ?_, hs.mono, hs.owned, hs.fresh, hs.new, hs.top, hs.later⟩, hv⟩
  · obtain ⟨b, k1, k2⟩ := hH.blk k bi hk
    have hb : bi.B ≠ r := fun e => hn (e ▸ hH.own k bi hk)
    refine ⟨b, k1, ?_⟩
    cases k2 with
    | rows h1 hs h2 h3 h4 h5 h6 h7 =>
      refine .rows h1 hs ((hne _ hb).trans h2) h3 h4 h5 h6 (fun i row j c a b => ?_)
      obtain ⟨v, k1, k2, k3⟩ := h7 i row j c a b
      exact ⟨v, hcell _ _ k1, k2, hv _ _ k3⟩
    | map h1 h2 h3 h4 => exact .map h1 ((hne _ hb).trans h2) h3 (fun i x m a b => ⟨hv _ _ (h4 i x m a b).key, hv _ _ (h4 i x m a b).val, (h4 i x m a b).born⟩)
    | lrec h1 h2 h3 => exact .lrec h1 ((hne _ hb).trans h2) (fun t => hv _ _ (h3 t))
  · rw [hne b (by omega)]
    exact hs.frame b hb hx

end Go.Ab
