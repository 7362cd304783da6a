/-
  A law's arguments, all of them, seen as pure values; the given statement from contracts on such values.
  Conditions: none.
-/
import Derived.Test.YtomakhllonkpiaaAbRead
import Derived.Test.YtomakhllonkpiaaAbAcc
namespace Go.Ab
open Go.ChangeShapes Go.WideShapes Go.ChangeAt Go.RowKit

def aggT (P : Program) (t : TypeId) : Bool := match P.underlying t with | some d => aggD d | none => false

/-- An argument, as the abstract machine sees it. -/
inductive ArgOf (P : Program) (t : TypeId) (Φ : List AV → Prop) : AV → Prop
  | agg {l} : aggT P t = true → Φ l → ArgOf P t Φ (.agg l)
  | cell {c} : aggT P t = false → Φ [c] → ArgOf P t Φ c

inductive ArgsOf (P : Program) : List TypeId → List (List AV → Prop) → List AV → Prop
  | nil : ArgsOf P [] [] []
  | cons {t ts Φ Φs c cs} : ArgOf P t Φ c → ArgsOf P ts Φs cs → ArgsOf P (t :: ts) (Φ :: Φs) (c :: cs)

inductive RdAll (P : Program) : List TypeId → List (List AV → Prop) → Prop
  | nil : RdAll P [] []
  | cons {t ts Φ Φs} : Rd P t Φ → (P.underlying t).isSome = true → RdAll P ts Φs → RdAll P (t :: ts) (Φ :: Φs)

section
variable {P : Program} {t : TypeId}

theorem read_arg {Φ : List AV → Prop} (h : Rd P t Φ) (hu : (P.underlying t).isSome = true) {w : World} {base : Nat} {v : Value} (ho : Value.okWide P w .any base t v) {H : Type} {enc : TypeId × Value → H} {base' : Nat} {spare : Nat → Bool} {held : Bool} {d : DataW H} {ps : List MemPlace}
    (ht : DataW.Trod enc P w base' spare held t v d ps) : ∃ c, ArgOf P t Φ c ∧ VRel X0 w c v := by
  obtain ⟨fuel, hf⟩ := ht
  obtain ⟨l, h1, h2, h3⟩ := h enc w base' spare held fuel _ _ hf
  obtain ⟨td, hd⟩ := Option.isSome_iff_exists.1 hu
  cases hag : aggD td with
  | true =>
    have hv : ∃ cs, v = .agg cs := by
      unfold Value.okWide at ho
      rw [hd] at ho
      cases td <;> simp only [aggD, Bool.false_eq_true] at hag
      · obtain ⟨cs, e, _⟩ := ho; exact ⟨cs, e⟩
      · obtain ⟨cs, e, _⟩ := ho; exact ⟨cs, e⟩
    obtain ⟨cs, rfl⟩ := hv
    refine ⟨.agg l, .agg (by simp [aggT, hd, hag]) h1, ?_⟩
    have := VRel.agg (X := X0) (w := w) h2.1 h2.2
    simpa [Value.cells] using this
  | false =>
    have hne := arg_cell (P := P) (t := t) (fun d' hd' => by
      rw [hd] at hd'
      cases hd'
      cases td <;> simp_all [aggD]) hu ho
    have hc : v.cells.toList = [v] := by
      cases v <;> first | rfl | exact absurd rfl (hne _)
    rw [hc] at h2
    match l, h2 with
    | [c], h2 => exact ⟨c, .cell (by simp [aggT, hd, hag]) h1, h2.2 0 c v rfl rfl⟩
    | [], h2 => have := h2.1; simp at this
    | _ :: _ :: _, h2 => have := h2.1; simp at this

theorem read_args {H : Type} {enc : TypeId × Value → H} {w : World} {base base' : Nat} {spare : Nat → Bool} {held : Bool} : ∀ {ts : List TypeId} {Φs : List (List AV → Prop)}, RdAll P ts Φs → ∀ {vs : List Value} {ds : List (DataW H)} {ps : List MemPlace},
    (∀ (j : Nat) t v, ts[j]? = some t → vs[j]? = some v → Value.okWide P w .any base t v) → DataW.TrodAll enc P w base' spare held ts vs ds ps → ∃ cs, ArgsOf P ts Φs cs ∧ VRels X0 w cs vs
  | [], _, .nil, vs, ds, ps, _, h => by
    obtain ⟨rfl, _, _⟩ := trodAll_nil h
    exact ⟨[], .nil, .nil _ _⟩
  | t :: ts, _, .cons hr hu hrs, vs, ds, ps, ho, h => by
    obtain ⟨v, vs', d, ds', p, q, rfl, rfl, rfl, h1, h2⟩ := trodAll_cons h
    obtain ⟨c, k1, k2⟩ := read_arg hr hu (ho 0 t v rfl rfl) h1
    obtain ⟨cs, m1, m2⟩ := read_args hrs (fun j t v a b => ho (j + 1) t v (by simpa using a) (by simpa using b)) h2
    exact ⟨c :: cs, .cons k1 m1, .cons k2 m2⟩
end

/-- A law whose contract is told of pure arguments that read as told. -/
theorem law_read {H : Type} {enc : TypeId × Value → H} {C : Checked} {os : Os} {f : FuncId} {fn : Func} {s : ChangeSpec} {conds : List PathCond} {tb : TypeId}
    (own : ownKnob C.prog.godebug = none) (started : os.Started) (noInit : C.prog.inits.idxOf? f = none) (hfn : C.prog.funcs[f]? = some fn)
    (witness : ∃ (w : World) (tape : Tape) (i : Input), w.os = os ∧ (w.forCall tape i).Shaped C.prog ∧ i.vars = [] ∧ Input.okWide C.prog (w.forCall tape i) .any w.heap.size f i ∧
      s.pre6 enc C.prog fn conds false (w.forCall tape i).memory i.args ∧ ({} : Assume).holds C.prog (lone (Frame.enter C.prog f i.args .normal) [] (w.forCall tape i)))
    (hl : laidOutB C.prog = true) (hvars : s.vars = []) (hres : fn.resultTypes = #[tb]) (hb : C.prog.underlying tb = some .bool)
    (hparams : ∀ t ∈ fn.params.toList, C.prog.readableRec t = true ∧ t < C.prog.types.size)
    (hsfn : ∀ ds : List (DataW H), ds.length = fn.params.toList.length → s.fn H ds = { results := [.lit (.bool true)], args := ds })
    {Φs : List (List AV → Prop)} (hrd : RdAll C.prog fn.params.toList Φs) (law : ∀ avs, ArgsOf C.prog fn.params.toList Φs avs → ∃ H', Spec C.prog f avs [] (.bool true) H') :
    ReturnsInHanded {} C os f .any (s.pre6 enc C.prog fn conds false) (s.post enc C.prog fn false true false false) := by
  refine law_lifted own started noInit hfn witness hl hvars hres hb hparams hsfn ?_
  intro W base args ds p ho hA _
  obtain ⟨cs, h1, h2⟩ := read_args hrd (vs := args.toList) (fun j t v a b => ho j t v (by simpa using a) (by simpa using b)) hA
  obtain ⟨H', hs⟩ := law cs h1
  exact ⟨cs, H', h2, hs⟩

theorem params_of {P : Program} {ts : List TypeId} (h : (ts.all fun t => P.readableRec t && decide (t < P.types.size)) = true) : ∀ t ∈ ts, P.readableRec t = true ∧ t < P.types.size := by
  intro t ht
  have := (List.all_eq_true.1 h) t ht
  simpa using this

theorem RdAll.c {P : Program} {t : TypeId} {ts : List TypeId} {Φ : List AV → Prop} {Φs : List (List AV → Prop)} {d : TypeDesc} (h : Rd P t Φ) (hu : P.underlying t = some d) (hs : RdAll P ts Φs) : RdAll P (t :: ts) (Φ :: Φs) :=
  .cons h (by rw [hu]; rfl) hs

/-- The arguments one by one. -/
theorem ArgsOf.c {P : Program} {t : TypeId} {ts : List TypeId} {Φ : List AV → Prop} {Φs : List (List AV → Prop)} {cs : List AV} (h : ArgsOf P (t :: ts) (Φ :: Φs) cs) {d : TypeDesc} (hu : P.underlying t = some d) :
    ∃ c cs', cs = c :: cs' ∧ (if aggD d = true then ∃ l, c = .agg l ∧ Φ l else Φ [c]) ∧ ArgsOf P ts Φs cs' := by
  cases h with
  | cons h1 h2 =>
    refine ⟨_, _, rfl, ?_, h2⟩
    cases h1 with
    | agg ha hl => simp only [aggT, hu] at ha; rw [if_pos ha]; exact ⟨_, rfl, hl⟩
    | cell ha hc => simp only [aggT, hu] at ha; rw [if_neg (by rw [ha]; simp)]; exact hc

theorem ArgsOf.n {P : Program} {cs : List AV} (h : ArgsOf P [] [] cs) : cs = [] := by cases h; rfl

/-! ### plain data -/
/-- Integers of a kind that are in its range. -/
theorem Rd_u8 {P : Program} {t : TypeId} (ht : P.underlying t = some (.int .u8)) : Rd P t fun l => ∃ k : UInt8, l = [.int .u8 k.toNat] :=
  Rd.mono (Rd_int ht) fun l ⟨n, h1, h2⟩ => by
    have e1 : IntKind.min .u8 = 0 := rfl
    have e2 : IntKind.max .u8 = 255 := rfl
    simp only [Lit.wf, e1, e2, Bool.and_eq_true, decide_eq_true_eq] at h2
    refine ⟨UInt8.ofNat n.toNat, ?_⟩
    rw [h1]
    congr 2
    simp
    omega

theorem Rd_i64 {P : Program} {t : TypeId} (ht : P.underlying t = some (.int .i64)) : Rd P t fun l => ∃ n : Int, l = [.int .i64 n] ∧ -9223372036854775808 ≤ n ∧ n < 9223372036854775808 :=
  Rd.mono (Rd_int ht) fun l ⟨n, h1, h2⟩ => by
    have e1 : IntKind.min .i64 = -9223372036854775808 := rfl
    have e2 : IntKind.max .i64 = 9223372036854775807 := rfl
    simp only [Lit.wf, e1, e2, Bool.and_eq_true, decide_eq_true_eq] at h2
    exact ⟨n, h1, by omega⟩

theorem Rd_u16 {P : Program} {t : TypeId} (ht : P.underlying t = some (.int .u16)) : Rd P t fun l => ∃ n : Nat, l = [.int .u16 n] ∧ n < 65536 :=
  Rd.mono (Rd_int ht) fun l ⟨n, h1, h2⟩ => by
    have e1 : IntKind.min .u16 = 0 := rfl
    have e2 : IntKind.max .u16 = 65535 := rfl
    simp only [Lit.wf, e1, e2, Bool.and_eq_true, decide_eq_true_eq] at h2
    exact ⟨n.toNat, by rw [h1]; congr 2; omega, by omega⟩

theorem Rd_u32 {P : Program} {t : TypeId} (ht : P.underlying t = some (.int .u32)) : Rd P t fun l => ∃ n : Nat, l = [.int .u32 n] ∧ n < 4294967296 :=
  Rd.mono (Rd_int ht) fun l ⟨n, h1, h2⟩ => by
    have e1 : IntKind.min .u32 = 0 := rfl
    have e2 : IntKind.max .u32 = 4294967295 := rfl
    simp only [Lit.wf, e1, e2, Bool.and_eq_true, decide_eq_true_eq] at h2
    exact ⟨n.toNat, by rw [h1]; congr 2; omega, by omega⟩

theorem Rd_i16 {P : Program} {t : TypeId} (ht : P.underlying t = some (.int .i16)) : Rd P t fun l => ∃ n : Int, l = [.int .i16 n] ∧ -32768 ≤ n ∧ n < 32768 :=
  Rd.mono (Rd_int ht) fun l ⟨n, h1, h2⟩ => by
    have e1 : IntKind.min .i16 = -32768 := rfl
    have e2 : IntKind.max .i16 = 32767 := rfl
    simp only [Lit.wf, e1, e2, Bool.and_eq_true, decide_eq_true_eq] at h2
    exact ⟨n, h1, by omega⟩

theorem rows_of {α : Type} {Φ : List AV → Prop} (enc : α → Row) (h : ∀ l, Φ l → ∃ a, l = enc a) : ∀ rows : List Row, (∀ row ∈ rows, Φ row) → ∃ as : List α, rows = as.map enc
  | [], _ => ⟨[], rfl⟩
  | row :: rows, hr => by
    obtain ⟨a, ha⟩ := h row (hr row (by simp))
    obtain ⟨as, has⟩ := rows_of enc h rows (fun r hm => hr r (by simp [hm]))
    exact ⟨a :: as, by rw [ha, has]; rfl⟩

/-- A slice of things that are told by a type of our own. -/
theorem Rd_list {P : Program} {t e : TypeId} {s : Nat} {α : Type} {Φ : List AV → Prop} (enc : α → Row) (ht : P.underlying t = some (.slice e)) (hs : P.cellsOf e = s) (hpos : 0 < s) (h : Rd P e Φ) (hΦ : ∀ l, Φ l → ∃ a, l = enc a) :
    Rd P t fun l => ∃ as : List α, l = [.islice (as.map enc)] ∧ as.length ≤ maxLen ∧ ∀ a ∈ as, Φ (enc a) :=
  Rd.mono (Rd_slice ht hs hpos h) fun l ⟨rows, h1, h2, h3⟩ => by
    obtain ⟨as, rfl⟩ := rows_of enc hΦ rows h3
    exact ⟨as, h1, by simpa using h2, fun a ha => h3 _ (List.mem_map_of_mem ha)⟩

theorem Rd_bytes {P : Program} {t e : TypeId} (ht : P.underlying t = some (.slice e)) (he : P.underlying e = some (.int .u8)) (hs : P.cellsOf e = 1) : Rd P t fun l => ∃ b : List UInt8, l = [.islice (rowsU8 b)] ∧ b.length ≤ maxLen :=
  Rd.mono (Rd_list (fun x : UInt8 => [AV.int .u8 x.toNat]) ht hs (by omega) (Rd_u8 he) (fun l h => h)) fun l ⟨as, h1, h2, _⟩ => ⟨as, h1, h2⟩

end Go.Ab
