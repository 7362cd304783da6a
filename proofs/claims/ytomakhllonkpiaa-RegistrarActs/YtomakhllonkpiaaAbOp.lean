/-
  The translation of one operation of the model into one of the abstract machine, and that they agree.
  Conditions: none.
-/
import Derived.Test.YtomakhllonkpiaaAbMaps
import Derived.Calls
namespace Go.Ab

def cvt1 : Value → Option AV
  | .int k n => some (.int k n)
  | .bool b => some (.bool b)
  | .string s => some (.str s.data.toList)
  | .pointer none => some .nilp
  | .slice none 0 0 => some .nils
  | .nilFunc => some .nilf
  | .map none => some .nilmap
  | .nilIface => some .nilI
  | .func (.func f) first captured => if first.size = 0 ∧ captured.size = 0 then some (.func f [] []) else none
  | _ => none

def cvtL : List Value → Option Row
  | [] => some []
  | v :: vs => (cvt1 v).bind fun c => (cvtL vs).bind fun cs => some (c :: cs)

def cvt : Value → Option AV
  | .agg cs => (cvtL cs.toList).bind fun l => some (.agg l)
  | v => cvt1 v

theorem cvt1_ok {v : Value} {c : AV} (h : cvt1 v = some c) (X : Ctx) (w : World) : VRel X w c v := by
  unfold cvt1 at h
  split at h <;> (try (cases h; done)) <;> (try (cases h; first | exact .int | exact .bool | exact .str rfl | exact .nilp | exact .nils | exact .nilf | exact .nilmap | exact .nilI))
  split at h
  · rename_i f first captured hq
    cases h
    have h1 : first = #[] := Array.eq_empty_of_size_eq_zero hq.1
    have h2 : captured = #[] := Array.eq_empty_of_size_eq_zero hq.2
    subst h1 h2
    exact .func (us := []) (vs := []) rfl rfl (by simp) (by simp)
  · cases h

theorem cvtL_ok {vs : List Value} {cs : Row} (h : cvtL vs = some cs) (X : Ctx) (w : World) : VRels X w cs vs := by
  induction vs generalizing cs with
  | nil => simp only [cvtL, Option.some.injEq] at h; subst h; exact .nil X w
  | cons v vs ih =>
    simp only [cvtL, Option.bind_eq_some_iff, Option.some.injEq] at h
    obtain ⟨c, h1, l, h2, rfl⟩ := h
    exact .cons (cvt1_ok h1 X w) (ih h2)

theorem cvt_ok {v : Value} {c : AV} (h : cvt v = some c) (X : Ctx) (w : World) : VRel X w c v := by
  unfold cvt at h
  split at h
  · rename_i cs
    simp only [Option.bind_eq_some_iff, Option.some.injEq] at h
    obtain ⟨l, h1, rfl⟩ := h
    have := cvtL_ok h1 X w
    exact .agg (vs := cs.toList) this.1 this.2
  · exact cvt1_ok h X w

def cmpOpd : Operand → Option Opd
  | .tmp t => some (.tmp t)
  | .const v => (cvt v).bind fun c => some (.lit c)
  | .func f => some (.lit (.func f [] []))
  | .global _ => none

def cmpOpds : List Operand → Option (List Opd)
  | [] => some []
  | x :: xs => (cmpOpd x).bind fun y => (cmpOpds xs).bind fun ys => some (y :: ys)

/-- The frames, side by side. -/
def FRel (X : Ctx) (w : World) (σ : Env) (tmps : Array Value) : Prop := ∀ t, VRel X w (σ.get t) (tmps.getD t undef)

theorem opd_ok {X : Ctx} {w : World} {σ : Env} {a : Act} (hF : FRel X w σ a.tmps) {x : Operand} {y : Opd} (h : cmpOpd x = some y) : VRel X w (y.ev σ) (a.eval x) := by
  cases x <;> simp only [cmpOpd, Option.bind_eq_some_iff, Option.some.injEq, reduceCtorEq] at h
  · subst h; exact hF _
  · obtain ⟨c, h1, rfl⟩ := h; exact cvt_ok h1 X w
  · subst h; exact .func (us := []) (vs := []) rfl rfl (by simp) (by simp)

theorem opds_ok {X : Ctx} {w : World} {σ : Env} {a : Act} (hF : FRel X w σ a.tmps) : ∀ {xs : List Operand} {ys : List Opd}, cmpOpds xs = some ys → VRels X w (ys.map (·.ev σ)) (xs.map a.eval)
  | [], ys, h => by simp only [cmpOpds, Option.some.injEq] at h; subst h; exact .nil X w
  | x :: xs, ys, h => by
    simp only [cmpOpds, Option.bind_eq_some_iff, Option.some.injEq] at h
    obtain ⟨y, h1, l, h2, rfl⟩ := h
    exact .cons (opd_ok hF h1) (opds_ok hF h2)

def cmpOO : Option Operand → Option (Option Opd)
  | none => some none
  | some x => (cmpOpd x).bind fun y => some (some y)

theorem oo_ok {X : Ctx} {w : World} {σ : Env} {a : Act} (hF : FRel X w σ a.tmps) {x : Option Operand} {y : Option Opd} (h : cmpOO x = some y) : ORel X w (y.map (·.ev σ)) (x.map a.eval) := by
  cases x <;> simp only [cmpOO, Option.bind_eq_some_iff, Option.some.injEq] at h
  · subst h; trivial
  · obtain ⟨z, h1, rfl⟩ := h; exact opd_ok hF h1

/-- How a type's values are read: one cell, or so many. -/
def aggOf (P : Program) (t : TypeId) : Option (Option Nat) :=
  match P.underlying t with
  | some d => some (if aggD d then some (P.cellsOf t) else none)
  | none => none

theorem aggOf_ok {P : Program} {t : TypeId} {agg : Option Nat} (h : aggOf P t = some agg) (w : World) :
    (agg = none ∧ (isAgg t).run P w = .ok false w) ∨ (∃ n, agg = some n ∧ (isAgg t).run P w = .ok true w ∧ (sizeOf t).run P w = .ok n w) := by
  unfold aggOf at h
  split at h
  · rename_i d hu
    cases h
    cases hd : aggD d
    · exact .inl ⟨by simp, by rw [isAgg_run hu, hd]⟩
    · exact .inr ⟨P.cellsOf t, by simp, by rw [isAgg_run hu, hd], cellsOf_run hu w⟩
  · cases h

/-- A slice's element: its type, its zero row, its size in cells and in bytes. -/
def elemOf' (P : Program) (t : TypeId) : Option (TypeId × Row × Nat × Nat) :=
  match P.underlying t with
  | some (.slice e) => match P.info? e with
    | some i => match i.zero with
      | some z => if z.cells.size = i.size ∧ 0 < i.size ∧ 0 < i.bytes then (cvtL z.cells.toList).bind fun l => some (e, l, i.size, i.bytes) else none
      | none => none
    | none => none
  | _ => none

theorem elemOf_ok {P : Program} {t e : TypeId} {za : Row} {sz bytes : Nat} (h : elemOf' P t = some (e, za, sz, bytes)) : ∃ i z, ElemOk P t e i z sz bytes ∧ ∀ X w, VRels X w za z.cells.toList := by
  unfold elemOf' at h
  split at h
  case h_2 => cases h
  rename_i e' hu
  split at h
  case h_2 => cases h
  rename_i i hi
  split at h
  case h_2 => cases h
  rename_i z hz
  split at h
  case isFalse => cases h
  rename_i hq
  simp only [Option.bind_eq_some_iff, Option.some.injEq, Prod.mk.injEq] at h
  obtain ⟨l, hl, rfl, rfl, rfl, rfl⟩ := h
  exact ⟨i, z, ⟨hu, hi, hz, rfl, rfl, hq.1, hq.2.1, hq.2.2⟩, fun X w => cvtL_ok hl X w⟩

def places (P : Program) (t : TypeId) : Option (Value × (Nat → Option (Nat × Nat))) :=
  match P.info? t, P.underlying t with
  | some it, some (.array _ e) =>
    match it.zero, P.info? e with
    | some z, some ie => some (z, fun i => some (i * ie.size, ie.size))
    | _, _ => none
  | some it, some (.struct fields) =>
    match it.zero, fields.toList.mapM (fun f => (P.info? f.type).map fun i => (f.offset, i.size)) with
    | some z, some places => some (z, fun i => places.toArray[i]?)
    | _, _ => none
  | _, _ => none

def cmpParts (pl : Nat → Option (Nat × Nat)) : List (Nat × Operand) → Option (List (Nat × Nat × Opd))
  | [] => some []
  | (i, x) :: ps => (pl i).bind fun p => (cmpOpd x).bind fun y => (cmpParts pl ps).bind fun r => some ((p.1, p.2, y) :: r)

def cmpSParts : List (Nat × Operand) → Option (List (Nat × Opd))
  | [] => some []
  | (i, x) :: ps => (cmpOpd x).bind fun y => (cmpSParts ps).bind fun r => some ((i, y) :: r)

theorem parts_ok {X : Ctx} {w : World} {σ : Env} {a : Act} (hF : FRel X w σ a.tmps) {pl : Nat → Option (Nat × Nat)} : ∀ {ps : List (Nat × Operand)} {r : List (Nat × Nat × Opd)}, cmpParts pl ps = some r →
    Parts X w pl (r.map fun p => (p.1, p.2.1, p.2.2.ev σ)) (ps.map fun p => (p.1, a.eval p.2))
  | [], r, h => by simp only [cmpParts, Option.some.injEq] at h; subst h; exact .nil
  | (i, x) :: ps, r, h => by
    simp only [cmpParts, Option.bind_eq_some_iff, Option.some.injEq] at h
    obtain ⟨p, h1, y, h2, q, h3, rfl⟩ := h
    exact .cons (by simpa using h1) (opd_ok hF h2) (parts_ok hF h3)

theorem sparts_ok {X : Ctx} {w : World} {σ : Env} {a : Act} (hF : FRel X w σ a.tmps) : ∀ {ps : List (Nat × Operand)} {r : List (Nat × Opd)}, cmpSParts ps = some r →
    SParts X w (r.map fun p => (p.1, p.2.ev σ)) (ps.map fun p => (p.1, a.eval p.2))
  | [], r, h => by simp only [cmpSParts, Option.some.injEq] at h; subst h; exact .nil
  | (i, x) :: ps, r, h => by
    simp only [cmpSParts, Option.bind_eq_some_iff, Option.some.injEq] at h
    obtain ⟨y, h2, q, h3, rfl⟩ := h
    exact .cons (opd_ok hF h2) (sparts_ok hF h3)

/-! ### the translation -/
def isU8 (P : Program) (t : TypeId) : Bool := match P.underlying t with | some (.int .u8) => true | _ => false

def cmpConv (P : Program) (src dst : TypeId) (x : Opd) : Option MOp :=
  match P.underlying src, P.underlying dst with
  | some (.int _), some (.int k) => some (.conv k x)
  | some .string, some (.slice e) => if isU8 P e then some (.ofstr x) else none
  | some (.slice e), some .string => if isU8 P e then some (.tostr x) else none
  | some .string, some .string => some (.strid x)
  | some (.slice _), some (.slice e) => if (src == dst) = true ∧ isU8 P e = true then some (.slid x) else none
  | _, _ => none

def cmpBuiltin (P : Program) (b : Builtin) (ts : List TypeId) (xs : List Opd) : Option MOp :=
  match b, ts, xs with
  | .len, [t], [x] => match P.underlying t with
    | some .string => some (.len 0 x)
    | some (.slice _) => some (.len 1 x)
    | some (.map ..) => some (.len 2 x)
    | _ => none
  | .append, [t, u], [s, x] => (elemOf' P t).bind fun e => match P.underlying u with
    | some (.slice _) | some .string => some (.append e.2.2.1 e.2.2.2 s x)
    | _ => none
  | .copy, [t, _], [d, s] => (elemOf' P t).bind fun e => some (.copy e.2.2.1 d s)
  | .min, _, x :: xs => some (.minmax false x xs)
  | .max, _, x :: xs => some (.minmax true x xs)
  | _, _, _ => none

def cmpOp (P : Program) : Op → Option MOp
  | .move x | .assign x => (cmpOpd x).bind fun y => some (.mv y)
  | .pick c a b => (cmpOpd c).bind fun c => (cmpOpd a).bind fun a => (cmpOpd b).bind fun b => some (.pick c a b)
  | .alloc e => match P.info? e with
    | some i => match i.zero with
      | some z => (cvtL z.cells.toList).bind fun l => some (.zbox l)
      | none => none
    | none => none
  | .box e x => (cmpOpd x).bind fun y => some (.box (P.cellsOf e) y)
  | .build t parts => (places P t).bind fun p => (cvtL p.1.cells.toList).bind fun z => (cmpParts p.2 parts.toList).bind fun r => some (.build z r)
  | .buildSlice t n parts => (elemOf' P t).bind fun e => if n * e.2.2.1 ≤ 16777216 then (cmpSParts parts.toList).bind fun r => some (.mkslice e.2.1 n r) else none
  | .load t x => (aggOf P t).bind fun g => (cmpOpd x).bind fun y => some (.load g y)
  | .store t x v => (aggOf P t).bind fun _ => (cmpOpd x).bind fun y => (cmpOpd v).bind fun u => some (.store (P.cellsOf t) y u)
  | .nilCheck x => (cmpOpd x).bind fun y => some (.nilchk y)
  | .binOp op t x y _ => (cmpOpd x).bind fun x => (cmpOpd y).bind fun y => some (.bin op (tkOf P t) x y)
  | .unOp op _ x => (cmpOpd x).bind fun x => some (.un op x)
  | .convert src dst x => (cmpOpd x).bind fun x => cmpConv P src dst x
  | .makeFunc (.func f) first captured => (cmpOpds first.toList).bind fun a => (cmpOpds captured.toList).bind fun b => some (.mkfn f a b)
  | .makeMap _ none => some .mkmap
  | .makeSlice t l c => (elemOf' P t).bind fun e => (cmpOpd l).bind fun l => (cmpOpd c).bind fun c => some (.make e.2.1 e.2.2.2 l c)
  | .slice t x lo hi mx => (cmpOpd x).bind fun x => (cmpOO lo).bind fun lo => (cmpOO hi).bind fun hi => (cmpOO mx).bind fun mx =>
      match P.underlying t with
      | some .string => match mx with
        | none => some (.sslc x lo hi)
        | some _ => none
      | some (.slice e) => (aggOf P e).bind fun _ => some (.slc (P.cellsOf e) x lo hi mx)
      | _ => none
  | .fieldAddr s x f => (cmpOpd x).bind fun x => match P.underlying s with
      | some (.struct fields) => fields[f]?.bind fun fl => (aggOf P fl.type).bind fun _ => if 0 < P.cellsOf fl.type then some (.faddr fl.offset x) else none
      | _ => none
  | .field s x f => (cmpOpd x).bind fun x => match P.underlying s with
      | some (.struct fields) => fields[f]?.bind fun fl => (aggOf P fl.type).bind fun g => some (.fld fl.offset g x)
      | _ => none
  | .indexAddr t x ix => (cmpOpd x).bind fun x => (cmpOpd ix).bind fun ix => match P.underlying t with
      | some (.slice e) => (aggOf P e).bind fun _ => some (.iaddr (P.cellsOf e) x ix)
      | some (.array n e) => (aggOf P e).bind fun _ => some (.aaddr n (P.cellsOf e) x ix)
      | _ => none
  | .index t x ix => (cmpOpd x).bind fun x => (cmpOpd ix).bind fun ix => match P.underlying t with
      | some .string => some (.sidx x ix)
      | some (.array n e) => (aggOf P e).bind fun g => some (.aidx n (P.cellsOf e) g.isSome x ix)
      | _ => none
  | .lookup t x k ok => (cmpOpd x).bind fun x => (cmpOpd k).bind fun k => match P.underlying t with
      | some (.map kt e) => (kkOf P kt).bind fun kk => match P.info? e with
        | some i => match i.zero with
          | some z => (cvt z).bind fun z => some (.look kk z ok x k)
          | none => none
        | none => none
      | _ => none
  | .mapUpdate t m k v | .insert t m k v => (cmpOpd m).bind fun m => (cmpOpd k).bind fun k => (cmpOpd v).bind fun v => match P.underlying t with
      | some (.map kt _) => (kkOf P kt).bind fun kk => some (.mupd kk m k v)
      | _ => none
  | .extract x i => (cmpOpd x).bind fun x => some (.ext i x)
  | .call { callee := .builtin b, args, argTypes } => (cmpOpds args.toList).bind fun xs => cmpBuiltin P b argTypes.toList xs
  | .call { callee := .value (.func f), args, .. } => if f = 0 then none else (cmpOpds args.toList).bind fun xs => some (.call f xs)
  | .call { callee := .value (.tmp t), args, .. } => (cmpOpds args.toList).bind fun xs => some (.callv (.tmp t) xs)
  | _ => none

end Go.Ab

/-
  One operation: the abstract step stands for the model's.
  Conditions: none.
-/
namespace Go.Ab

/-- What an operation hands on. -/
def NRel (X : Ctx) (w : World) (n : Next) (c : AV) : Prop := (∃ v, n = .value v ∧ VRel X w c v) ∨ (n = .skip ∧ c = .undef)

def OpSim (P : Program) (o : Oper) (a : Act) (X : Ctx) (w : World) (c : AV) (H' : Heap) : Prop :=
  ∃ n w' X', (execOp a.eval o).run P w = .ok n w' ∧ NRel X' w' n c ∧ HRel X' H' w' ∧ Stp X w X' w'

theorem sim_value {P : Program} {o : Oper} {a : Act} {X : Ctx} {w : World} {c : AV} {H' : Heap} {s : Sem Value} (ho : execOp a.eval o = (do pure (.value (← s)) : Sem Next))
    (h : ∃ v' w' X', s.run P w = .ok v' w' ∧ VRel X' w' c v' ∧ HRel X' H' w' ∧ Stp X w X' w') : OpSim P o a X w c H' := by
  obtain ⟨v', w', X', h1, h2, h3, h4⟩ := h
  exact ⟨.value v', w', X', by rw [ho, Sem.run_bind, h1, Result.andThen_ok, Sem.run_pure], .inl ⟨v', rfl, h2⟩, h3, h4⟩

theorem sim_same {P : Program} {o : Oper} {a : Act} {X : Ctx} {w : World} {c : AV} {H : Heap} (hH : HRel X H w) {s : Sem Value} (ho : execOp a.eval o = (do pure (.value (← s)) : Sem Next))
    (h : ∃ v', s.run P w = .ok v' w ∧ VRel X w c v') : OpSim P o a X w c H := by
  obtain ⟨v', h1, h2⟩ := h
  exact sim_value ho ⟨v', w, X, h1, h2, hH, Stp.refl X w⟩

theorem sim_unit {P : Program} {o : Oper} {a : Act} {X : Ctx} {w : World} {H' : Heap} {s : Sem Unit} (ho : execOp a.eval o = (do s; pure .skip : Sem Next))
    (h : ∃ w' X', s.run P w = .ok () w' ∧ HRel X' H' w' ∧ Stp X w X' w') : OpSim P o a X w .undef H' := by
  obtain ⟨w', X', h1, h3, h4⟩ := h
  exact ⟨.skip, w', X', by rw [ho, Sem.run_bind, h1, Result.andThen_ok, Sem.run_pure], .inr ⟨rfl, rfl⟩, h3, h4⟩

section
variable {P : Program} {o : Oper} {a : Act} {X : Ctx} {w : World} {H : Heap} {σ : Env}

theorem op_move (hH : HRel X H w) (hF : FRel X w σ a.tmps) {x : Operand} (ho : o.op = .move x ∨ o.op = .assign x) {y : Opd} (hc : cmpOpd x = some y) : OpSim P o a X w (y.ev σ) H := by
  refine ⟨.value (a.eval x), w, X, ?_, .inl ⟨_, rfl, opd_ok hF hc⟩, hH, Stp.refl X w⟩
  unfold execOp
  rcases ho with ho | ho <;> simp only [ho, Sem.run_pure]

theorem op_pick (hH : HRel X H w) (hF : FRel X w σ a.tmps) {c x y : Operand} (ho : o.op = .pick c x y) {c' x' y' : Opd} (h1 : cmpOpd c = some c') (h2 : cmpOpd x = some x') (h3 : cmpOpd y = some y') {t : Bool} (ht : c'.ev σ = .bool t) :
    OpSim P o a X w (if t then x'.ev σ else y'.ev σ) H := by
  have hc := opd_ok hF h1
  rw [ht] at hc
  generalize hq : a.eval c = vc at hc
  cases hc
  refine ⟨.value (if t then a.eval x else a.eval y), w, X, ?_, .inl ⟨_, rfl, ?_⟩, hH, Stp.refl X w⟩
  · unfold execOp
    simp [ho, hq, asBool]
  · cases t
    · exact opd_ok hF h3
    · exact opd_ok hF h2

theorem op_alloc (hH : HRel X H w) {e : TypeId} (ho : o.op = .alloc e) {i : TypeInfo} {z : Value} (hi : P.info? e = some i) (hz : i.zero = some z) {l : Row} (hl : cvtL z.cells.toList = some l) (hok : okRow l = true) :
    OpSim P o a X w (.ptr H.length 0 0 0) (H ++ [.rows 0 l.length [l]]) := by
  refine sim_value (s := Instr.alloc e true (.tuple #[])) (by unfold execOp; simp only [ho]) ?_
  obtain ⟨v', w', X', h1, h2, h3, h4⟩ := newVar_ok hH P e (v := z) (cvtL_ok hl X w) hok
  refine ⟨v', w', X', ?_, h2, h3, h4⟩
  have hzv : (zeroValue e).run P w = .ok z w := by simp [zeroValue, typeInfo, hi, hz]
  unfold Instr.alloc
  rw [Sem.run_bind, hzv, Result.andThen_ok]
  exact h1

theorem op_box (hH : HRel X H w) (hF : FRel X w σ a.tmps) {e : TypeId} {x : Operand} (ho : o.op = .box e x) {y : Opd} (hc : cmpOpd x = some y) (hok : okRow (y.ev σ).cells = true) :
    OpSim P o a X w (.ptr H.length 0 0 0) (H ++ [.rows 0 (y.ev σ).cells.length [(y.ev σ).cells]]) := by
  refine sim_value (s := Instr.box e (a.eval x)) (by unfold execOp; simp only [ho]) ?_
  exact newVar_ok hH P e (cells_rel hok (opd_ok hF hc)).1 hok

theorem op_build (hH : HRel X H w) (hF : FRel X w σ a.tmps) {t : TypeId} {parts : Array (Nat × Operand)} (ho : o.op = .build t parts) {z : Value} {pl : Nat → Option (Nat × Nat)} (hp : places P t = some (z, pl)) {za : Row} (hz : cvtL z.cells.toList = some za)
    {r : List (Nat × Nat × Opd)} (hr : cmpParts pl parts.toList = some r) {cs : Row} (hf : fillAV za (r.map fun p => (p.1, p.2.1, p.2.2.ev σ)) = some cs) : OpSim P o a X w (.agg cs) H := by
  obtain ⟨cells', h1, h2⟩ := fill_ok (parts_ok hF hr) (cvtL_ok hz X w) hf
  refine sim_same hH (s := Instr.build t (parts.map fun (i, x) => (i, a.eval x))) (by unfold execOp; simp only [ho]) ⟨.agg cells', ?_, ?_⟩
  · refine run_build w t _ cells' ?_
    unfold places at hp
    unfold Program.built
    split at hp
    case h_3 => cases hp
    · rename_i it n e hi hu
      split at hp
      case h_2 => cases hp
      rename_i z' ie hz' hie
      simp only [Option.some.injEq, Prod.mk.injEq] at hp
      obtain ⟨rfl, rfl⟩ := hp
      simp only [hi, hu, hz', hie, Array.toList_map]
      exact h1
    · rename_i it fields hi hu
      split at hp
      case h_2 => cases hp
      rename_i z' pl' hz' hpl'
      simp only [Option.some.injEq, Prod.mk.injEq] at hp
      obtain ⟨rfl, rfl⟩ := hp
      simp only [hi, hu, hz', hpl', Array.toList_map]
      exact h1
  · have := VRel.agg h2.1 h2.2
    simpa using this

theorem op_mkslice (hH : HRel X H w) (hF : FRel X w σ a.tmps) {t e : TypeId} {n : Nat} {parts : Array (Nat × Operand)} (ho : o.op = .buildSlice t n parts) {za : Row} {sz bytes : Nat} (he : elemOf' P t = some (e, za, sz, bytes)) (hn : n * sz ≤ 16777216)
    {r : List (Nat × Opd)} (hr : cmpSParts parts.toList = some r) (hok : okRow za = true) {rs : List Row} (hf : fillRows (List.replicate n za) za.length (r.map fun p => (p.1, p.2.ev σ)) = some rs) :
    OpSim P o a X w (.slice H.length 0 0 n) (H ++ [.rows 0 za.length rs]) := by
  obtain ⟨i, z, E, hz⟩ := elemOf_ok he
  refine sim_value (s := Instr.buildSlice t n (parts.map fun (i, x) => (i, a.eval x))) (by unfold execOp; simp only [ho]) ?_
  have := mkslice_ok hH E hz n hn (sparts_ok hF hr) hok hf
  have e2 : (parts.map fun (i, x) => (i, a.eval x)) = (parts.toList.map fun p => (p.1, a.eval p.2)).toArray := by apply Array.ext'; simp
  rw [e2]
  exact this

theorem op_mkfrz (hH : HRel X H w) (hF : FRel X w σ a.tmps) {t e : TypeId} {n : Nat} {parts : Array (Nat × Operand)} (ho : o.op = .buildSlice t n parts) {za : Row} {sz bytes : Nat} (he : elemOf' P t = some (e, za, sz, bytes)) (hn : n * sz ≤ 16777216)
    {r : List (Nat × Opd)} (hr : cmpSParts parts.toList = some r) (hok : okRow za = true) {rs : List Row} (hf : fillRows (List.replicate n za) za.length (r.map fun p => (p.1, p.2.ev σ)) = some rs) :
    OpSim P o a X w (.islice rs) H := by
  obtain ⟨i, z, E, hz⟩ := elemOf_ok he
  refine sim_value (s := Instr.buildSlice t n (parts.map fun (i, x) => (i, a.eval x))) (by unfold execOp; simp only [ho]) ?_
  have := mkfrz_ok hH E hz n hn (sparts_ok hF hr) hok hf
  have e2 : (parts.map fun (i, x) => (i, a.eval x)) = (parts.toList.map fun p => (p.1, a.eval p.2)).toArray := by apply Array.ext'; simp
  rw [e2]
  exact this

theorem op_load (hH : HRel X H w) (hF : FRel X w σ a.tmps) {t : TypeId} {x : Operand} (ho : o.op = .load t x) {agg : Option Nat} (hg : aggOf P t = some agg) {y : Opd} (hc : cmpOpd x = some y) {c : AV} (he : loadAV H agg (y.ev σ) = some c) : OpSim P o a X w c H :=
  sim_same hH (s := Instr.loadAt t (a.eval x)) (by unfold execOp; simp only [ho]) (load_ok hH (opd_ok hF hc) P t agg c he (aggOf_ok hg w))

theorem op_store (hH : HRel X H w) (hF : FRel X w σ a.tmps) {t : TypeId} {x v : Operand} (ho : o.op = .store t x v) {agg : Option Nat} (hg : aggOf P t = some agg) {y u : Opd} (h1 : cmpOpd x = some y) (h2 : cmpOpd v = some u) {H' : Heap}
    (he : storeAV H (P.cellsOf t) (y.ev σ) (u.ev σ) = some H') : OpSim P o a X w .undef H' := by
  have hs : (sizeOf t).run P w = .ok (P.cellsOf t) w := by
    unfold aggOf at hg
    split at hg
    · rename_i d hu; exact cellsOf_run hu w
    · cases hg
  exact sim_unit (s := Instr.storeAt t (a.eval x) (a.eval v)) (by unfold execOp; simp only [ho]) (store_ok hH (opd_ok hF h1) (opd_ok hF h2) P t _ hs he)

theorem op_nilchk (hH : HRel X H w) (hF : FRel X w σ a.tmps) {x : Operand} (ho : o.op = .nilCheck x) {y : Opd} (hc : cmpOpd x = some y) (h : (∃ r g i j, y.ev σ = .ptr r g i j) ∨ (∃ rs i j, y.ev σ = .iptr rs i j) ∨ ∃ f p q, y.ev σ = .func f p q) :
    OpSim P o a X w (y.ev σ) H := by
  have hv := opd_ok hF hc
  refine ⟨.value (a.eval x), w, X, ?_, .inl ⟨_, rfl, hv⟩, hH, Stp.refl X w⟩
  unfold execOp
  rcases h with ⟨r, g, i, j, e⟩ | ⟨rs, i, j, e⟩ | ⟨f, p, q, e⟩ <;> rw [e] at hv <;> generalize hq : a.eval x = vx at hv <;> cases hv <;> simp [ho, hq]

theorem op_bin (hH : HRel X H w) (hF : FRel X w σ a.tmps) {op : BinOp} {t u : TypeId} {x y : Operand} (ho : o.op = .binOp op t x y u) {x' y' : Opd} (h1 : cmpOpd x = some x') (h2 : cmpOpd y = some y') {c : AV} (he : binAV op (tkOf P t) (x'.ev σ) (y'.ev σ) = some c) :
    OpSim P o a X w c H :=
  sim_same hH (by unfold execOp; simp only [ho]) (bin_ok x y (opd_ok hF h1) (opd_ok hF h2) he)

theorem op_un (hH : HRel X H w) (hF : FRel X w σ a.tmps) {op : UnOp} {t : TypeId} {x : Operand} (ho : o.op = .unOp op t x) {x' : Opd} (h1 : cmpOpd x = some x') {c : AV} (he : unAV op (x'.ev σ) = some c) : OpSim P o a X w c H :=
  sim_same hH (s := Op.unary op (a.eval x)) (by unfold execOp; simp only [ho]) (un_ok op (opd_ok hF h1) P he)

theorem op_make (hH : HRel X H w) (hF : FRel X w σ a.tmps) {t e : TypeId} {l c : Operand} (ho : o.op = .makeSlice t l c) {za : Row} {sz bytes : Nat} (he : elemOf' P t = some (e, za, sz, bytes)) {l' c' : Opd} (h1 : cmpOpd l = some l') (h2 : cmpOpd c = some c')
    {r : AV} {H' : Heap} (h : makeAV H za bytes (l'.ev σ) (c'.ev σ) = some (r, H')) : OpSim P o a X w r H' := by
  obtain ⟨i, z, E, hz⟩ := elemOf_ok he
  exact sim_value (s := Instr.makeSlice t (a.eval l) (a.eval c)) (by unfold execOp; simp only [ho]) (make_ok hH (opd_ok hF h1) (opd_ok hF h2) E hz h)

theorem op_conv (hH : HRel X H w) (hF : FRel X w σ a.tmps) {src dst : TypeId} {x : Operand} (ho : o.op = .convert src dst x) {x' : Opd} (h1 : cmpOpd x = some x') {m : MOp} (hm : cmpConv P src dst x' = some m) {r : AV} {H' : Heap} (h : stepOp σ H m = some (r, H')) :
    OpSim P o a X w r H' := by
  have hv := opd_ok hF h1
  have hex : execOp a.eval o = (do pure (.value (← convert src dst (a.eval x))) : Sem Next) := by unfold execOp; simp only [ho]
  unfold cmpConv at hm
  split at hm
  · rename_i k1 k hs hd
    cases hm
    simp only [stepOp, Option.bind_eq_some_iff, Option.some.injEq, Prod.mk.injEq] at h
    obtain ⟨n, hn, rfl, rfl⟩ := h
    generalize x'.ev σ = c at hv hn
    cases c <;> simp only [intOf, reduceCtorEq, Option.some.injEq] at hn
    subst hn
    generalize hq : a.eval x = vx at hv hex
    cases hv
    refine sim_same hH hex ⟨_, ?_, by rw [wrp_eq]; exact .int⟩
    simp [convert, run_underlying hs, run_underlying hd, Conv.intToInt]
  · rename_i e hs hd
    split at hm
    case isFalse => cases hm
    rename_i hu8
    cases hm
    have he : P.underlying e = some (.int .u8) := by
      unfold isU8 at hu8; split at hu8 <;> first | assumption | cases hu8
    simp only [stepOp] at h
    split at h
    case h_2 => cases h
    rename_i s hxs
    simp only [Option.some.injEq, Prod.mk.injEq] at h
    obtain ⟨rfl, rfl⟩ := h
    rw [hxs] at hv
    generalize hq : a.eval x = vx at hv hex
    cases hv
    rename_i bs hbs
    subst hbs
    exact sim_value hex (ofstr_ok hH bs hs hd he)
  · rename_i e hs hd
    split at hm
    case isFalse => cases hm
    rename_i hu8
    cases hm
    have he : P.underlying e = some (.int .u8) := by
      unfold isU8 at hu8; split at hu8 <;> first | assumption | cases hu8
    simp only [stepOp] at h
    split at h
    case h_1 => cases h
    rename_i hns
    simp only [Option.bind_eq_some_iff, Option.some.injEq, Prod.mk.injEq] at h
    obtain ⟨rs, hel, s, hb, rfl, rfl⟩ := h
    exact sim_same hH hex (tostr_ok hH hv hs he hd (fun s e => hns s e) hel hb)
  · rename_i hs hd
    cases hm
    simp only [stepOp] at h
    split at h
    case h_2 => cases h
    rename_i s hxs
    simp only [Option.some.injEq, Prod.mk.injEq] at h
    obtain ⟨rfl, rfl⟩ := h
    rw [hxs] at hv
    generalize hq : a.eval x = vx at hv hex
    cases hv
    rename_i bs hbs
    exact sim_same hH hex ⟨.string bs, by simp [convert, run_underlying hs, run_underlying hd], .str hbs⟩
  · rename_i e hs hd
    split at hm
    case isFalse => cases hm
    rename_i hq
    obtain ⟨heq, hu8⟩ := hq
    have heq' : src = dst := by simpa using heq
    subst heq'
    cases hm
    have he : P.underlying e = some (.int .u8) := by
      unfold isU8 at hu8; split at hu8 <;> first | assumption | cases hu8
    simp only [stepOp] at h
    split at h
    case h_2 => cases h
    rename_i r1 g1 i1 n1 hx1
    unfold req at h
    split at h
    case isFalse => cases h
    rename_i hpos
    simp only [Option.bind_eq_some_iff, Option.some.injEq, Prod.mk.injEq] at h
    obtain ⟨q, hq, rfl, rfl⟩ := h
    rw [hx1] at hv
    obtain ⟨w', X', k1, k2, k3, k4⟩ := slid_ok hH hv hpos hq hd he
    exact sim_value hex ⟨_, w', X', k1, k2, k3, k4⟩
  · cases hm


theorem size_of_agg {e : TypeId} {agg : Option Nat} (hg : aggOf P e = some agg) : (sizeOf e).run P w = .ok (P.cellsOf e) w := by
  unfold aggOf at hg
  split at hg
  · rename_i d hu; exact cellsOf_run hu w
  · cases hg

theorem op_slc (hH : HRel X H w) (hF : FRel X w σ a.tmps) {t e : TypeId} {x : Operand} {lo hi mx : Option Operand} (ho : o.op = .slice t x lo hi mx) {x' : Opd} {lo' hi' mx' : Option Opd} (h1 : cmpOpd x = some x') (h2 : cmpOO lo = some lo') (h3 : cmpOO hi = some hi')
    (h4 : cmpOO mx = some mx') (ht : P.underlying t = some (.slice e)) {agg : Option Nat} (hg : aggOf P e = some agg) {c : AV}
    (h : slcAV H (P.cellsOf e) (x'.ev σ) (lo'.map (·.ev σ)) (hi'.map (·.ev σ)) (mx'.map (·.ev σ)) = some c) : OpSim P o a X w c H :=
  sim_same hH (s := Instr.sliceAt t (a.eval x) (lo.map a.eval) (hi.map a.eval) (mx.map a.eval)) (by unfold execOp; simp only [ho])
    (slc_slice hH (opd_ok hF h1) (oo_ok hF h2) (oo_ok hF h3) (oo_ok hF h4) ht (size_of_agg hg) h)

theorem op_sslc (hH : HRel X H w) (hF : FRel X w σ a.tmps) {t : TypeId} {x : Operand} {lo hi mx : Option Operand} (ho : o.op = .slice t x lo hi mx) {x' : Opd} {lo' hi' : Option Opd} (h1 : cmpOpd x = some x') (h2 : cmpOO lo = some lo') (h3 : cmpOO hi = some hi')
    (h4 : cmpOO mx = some none) (ht : P.underlying t = some .string) {s : List UInt8} (hs : x'.ev σ = .str s) {c : AV} (h : sslcAV s (lo'.map (·.ev σ)) (hi'.map (·.ev σ)) = some c) : OpSim P o a X w c H := by
  have hx := opd_ok hF h1
  rw [hs] at hx
  have hmx : mx = none := by
    cases mx with
    | none => rfl
    | some m => simp only [cmpOO, Option.bind_eq_some_iff, Option.some.injEq] at h4; obtain ⟨_, _, h⟩ := h4; cases h
  subst hmx
  exact sim_same hH (s := Instr.sliceAt t (a.eval x) (lo.map a.eval) (hi.map a.eval) none) (by unfold execOp; simp only [ho, Option.map_none]) (slc_str hx (oo_ok hF h2) (oo_ok hF h3) ht h)

theorem op_faddr (hH : HRel X H w) (hF : FRel X w σ a.tmps) {t : TypeId} {x : Operand} {k : Nat} (ho : o.op = .fieldAddr t x k) {x' : Opd} (h1 : cmpOpd x = some x') {fields : Array Field} (hu : P.underlying t = some (.struct fields)) {fl : Field} (hf : fields[k]? = some fl)
    {agg : Option Nat} (hg : aggOf P fl.type = some agg) (hpos : 0 < P.cellsOf fl.type) {c : AV} (h : faddrAV fl.offset (x'.ev σ) = some c) : OpSim P o a X w c H := by
  have hs : (sizeOf fl.type).run P w = .ok (P.cellsOf fl.type) w := by
    unfold aggOf at hg
    split at hg
    · rename_i d hu; exact cellsOf_run hu w
    · cases hg
  exact sim_same hH (s := Instr.fieldAt t (a.eval x) k) (by unfold execOp; simp only [ho]) (faddr_ok (opd_ok hF h1) hu hf hs hpos h)

theorem op_fld (hH : HRel X H w) (hF : FRel X w σ a.tmps) {t : TypeId} {x : Operand} {k : Nat} (ho : o.op = .field t x k) {x' : Opd} (h1 : cmpOpd x = some x') {fields : Array Field} (hu : P.underlying t = some (.struct fields)) {fl : Field} (hf : fields[k]? = some fl)
    {agg : Option Nat} (hg : aggOf P fl.type = some agg) {cs : Row} (hx : x'.ev σ = .agg cs) {c : AV} (h : cut cs fl.offset agg = some c) : OpSim P o a X w c H := by
  have hv := opd_ok hF h1
  rw [hx] at hv
  exact sim_same hH (s := Instr.field t (a.eval x) k) (by unfold execOp; simp only [ho]) (fld_ok hv hu hf h (aggOf_ok hg w))

theorem op_iaddr (hH : HRel X H w) (hF : FRel X w σ a.tmps) {t e : TypeId} {x ix : Operand} (ho : o.op = .indexAddr t x ix) {x' ix' : Opd} (h1 : cmpOpd x = some x') (h2 : cmpOpd ix = some ix') (hu : P.underlying t = some (.slice e))
    {agg : Option Nat} (hg : aggOf P e = some agg) {n : Int} (hn : intOf (ix'.ev σ) = some n) {c : AV} (h : iaddrAV H (P.cellsOf e) (x'.ev σ) n = some c) : OpSim P o a X w c H :=
  sim_same hH (s := Instr.indexAt t (a.eval x) (a.eval ix)) (by unfold execOp; simp only [ho]) (iaddr_ok hH (opd_ok hF h1) (opd_ok hF h2) hu (size_of_agg hg) hn h)

theorem op_aaddr (hH : HRel X H w) (hF : FRel X w σ a.tmps) {t e : TypeId} {len : Nat} {x ix : Operand} (ho : o.op = .indexAddr t x ix) {x' ix' : Opd} (h1 : cmpOpd x = some x') (h2 : cmpOpd ix = some ix') (hu : P.underlying t = some (.array len e))
    {agg : Option Nat} (hg : aggOf P e = some agg) {n : Int} (hn : intOf (ix'.ev σ) = some n) {c : AV} (h : aaddrAV len (P.cellsOf e) (x'.ev σ) n = some c) : OpSim P o a X w c H :=
  sim_same hH (s := Instr.indexAt t (a.eval x) (a.eval ix)) (by unfold execOp; simp only [ho]) (aaddr_ok (opd_ok hF h1) (opd_ok hF h2) hu (size_of_agg hg) hn h)

theorem op_sidx (hH : HRel X H w) (hF : FRel X w σ a.tmps) {t : TypeId} {x ix : Operand} (ho : o.op = .index t x ix) {x' ix' : Opd} (h1 : cmpOpd x = some x') (h2 : cmpOpd ix = some ix') (hu : P.underlying t = some .string)
    {n : Int} (hn : intOf (ix'.ev σ) = some n) (h0 : 0 ≤ n) {s : List UInt8} (hx : x'.ev σ = .str s) {b : UInt8} (hb : s[n.toNat]? = some b) : OpSim P o a X w (.int .u8 b.toNat) H := by
  have hv := opd_ok hF h1
  rw [hx] at hv
  exact sim_same hH (s := Instr.index t (a.eval x) (a.eval ix)) (by unfold execOp; simp only [ho]) ⟨_, sidx_ok hv (opd_ok hF h2) hu hn h0 hb, .int⟩

theorem op_aidx (hH : HRel X H w) (hF : FRel X w σ a.tmps) {t e : TypeId} {len : Nat} {x ix : Operand} (ho : o.op = .index t x ix) {x' ix' : Opd} (h1 : cmpOpd x = some x') (h2 : cmpOpd ix = some ix') (hu : P.underlying t = some (.array len e))
    {agg : Option Nat} (hg : aggOf P e = some agg) {n : Int} (hn : intOf (ix'.ev σ) = some n) (h0 : 0 ≤ n ∧ n < (len : Int)) {cs : Row} (hx : x'.ev σ = .agg cs) {c : AV} (h : cut cs (n.toNat * P.cellsOf e) (if agg.isSome then some (P.cellsOf e) else none) = some c) :
    OpSim P o a X w c H := by
  have hv := opd_ok hF h1
  rw [hx] at hv
  have hag : (if agg.isSome then some (P.cellsOf e) else none) = agg := by
    unfold aggOf at hg
    split at hg
    · rename_i d _
      cases hg
      cases aggD d <;> simp
    · cases hg
  rw [hag] at h
  exact sim_same hH (s := Instr.index t (a.eval x) (a.eval ix)) (by unfold execOp; simp only [ho]) (aidx_ok hv (opd_ok hF h2) hu (size_of_agg hg) hn h0 h (aggOf_ok hg w))

theorem op_look (hH : HRel X H w) (hF : FRel X w σ a.tmps) {t kt e : TypeId} {x k : Operand} {ok : Bool} (ho : o.op = .lookup t x k ok) {x' k' : Opd} (h1 : cmpOpd x = some x') (h2 : cmpOpd k = some k') (hu : P.underlying t = some (.map kt e)) {kk : Nat}
    (hk : kkOf P kt = some kk) {i : TypeInfo} (hi : P.info? e = some i) {z : Value} (hz : i.zero = some z) {za : AV} (hza : cvt z = some za) {c : AV} (h : lookAV H kk za ok (x'.ev σ) (k'.ev σ) = some c) : OpSim P o a X w c H :=
  sim_same hH (s := Instr.lookup t (a.eval x) (a.eval k) ok) (by unfold execOp; simp only [ho]) (look_ok hH hu hk (by simp [zeroValue, typeInfo, hi, hz]) (cvt_ok hza X w) (opd_ok hF h1) (opd_ok hF h2) h)

theorem op_mupd (hH : HRel X H w) (hF : FRel X w σ a.tmps) {t kt e : TypeId} {m k v : Operand} (ho : o.op = .mapUpdate t m k v ∨ o.op = .insert t m k v) {m' k' v' : Opd} (h1 : cmpOpd m = some m') (h2 : cmpOpd k = some k') (h3 : cmpOpd v = some v')
    (hu : P.underlying t = some (.map kt e)) {kk : Nat} (hk : kkOf P kt = some kk) {H' : Heap} (h : mupdAV H kk (m'.ev σ) (k'.ev σ) (v'.ev σ) = some H') : OpSim P o a X w .undef H' :=
  sim_unit (s := Instr.mapUpdate t (a.eval m) (a.eval k) (a.eval v)) (by unfold execOp; rcases ho with ho | ho <;> simp only [ho]) (mupd_ok hH hu hk (opd_ok hF h1) (opd_ok hF h2) (opd_ok hF h3) h)

theorem op_ext (hH : HRel X H w) (hF : FRel X w σ a.tmps) {x : Operand} {i : Nat} (ho : o.op = .extract x i) {x' : Opd} (h1 : cmpOpd x = some x') {vs : Row} (hx : x'.ev σ = .tup vs) {c : AV} (h : vs[i]? = some c) : OpSim P o a X w c H := by
  have hv := opd_ok hF h1
  rw [hx] at hv
  generalize hq : a.eval x = vx at hv
  cases hv
  rename_i us hl hc
  have hi := (List.getElem?_eq_some_iff.1 h).1
  obtain ⟨u, hu⟩ : ∃ u, us[i]? = some u := ⟨us[i]'(by omega), by simp⟩
  exact sim_same hH (s := Instr.extract (a.eval x) i) (by unfold execOp; simp only [ho]) ⟨u, by simp [hq, Instr.extract, hu], hc i c u h hu⟩

theorem op_mkfn (hH : HRel X H w) (hF : FRel X w σ a.tmps) {f : Nat} {first captured : Array Operand} (ho : o.op = .makeFunc (.func f) first captured) {p q : List Opd} (h1 : cmpOpds first.toList = some p) (h2 : cmpOpds captured.toList = some q) :
    OpSim P o a X w (.func f (p.map (·.ev σ)) (q.map (·.ev σ))) H := by
  have k1 := opds_ok hF h1
  have k2 := opds_ok hF h2
  have hv := VRel.func (X := X) (w := w) (f := f) k1.1 k2.1 k1.2 k2.2
  refine sim_same hH (s := Instr.makeFunc (.func f) (first.map a.eval) (captured.map a.eval)) (by unfold execOp; simp only [ho]) ⟨_, rfl, ?_⟩
  have e1 : (first.map a.eval) = (first.toList.map a.eval).toArray := by apply Array.ext'; simp
  have e2 : (captured.map a.eval) = (captured.toList.map a.eval).toArray := by apply Array.ext'; simp
  rw [e1, e2]
  exact hv

theorem op_mkmap (hH : HRel X H w) {t : TypeId} (ho : o.op = .makeMap t none) : OpSim P o a X w (.map H.length) (H ++ [.map [] 0]) := by
  let bi : BI := ⟨0, w.heap.size, 0, 0, 0⟩
  have hu : New X w H.length bi (w.alloc (.map #[] 0)) :=
    { free := hH.free (Nat.le_refl _), top := hH.top, size := by simp, os := rfl, tape := rfl, output := rfl
      others := fun b hb => heap_alloc_old w _ b hb, place := Nat.le_refl _, lt := by simp [bi] }
  refine sim_value (s := Instr.makeMap t none) (by unfold execOp; simp only [ho, Option.map_none]) ⟨.map (some w.heap.size), _, _, by simp [Instr.makeMap], .map (bi := bi) (by simp [Ctx.set]) (fun _ => rfl), hu.hrel hH ?_, hu.stp⟩
  exact .map (ms := []) rfl (heap_alloc_new w _) rfl (by simp)

theorem op_builtin (hH : HRel X H w) (hF : FRel X w σ a.tmps) {b : Builtin} {args : Array Operand} {ts : Array TypeId} (ho : o.op = .call { callee := .builtin b, args, argTypes := ts }) {xs : List Opd} (h1 : cmpOpds args.toList = some xs) {m : MOp}
    (hm : cmpBuiltin P b ts.toList xs = some m) {c : AV} {H' : Heap} (h : stepOp σ H m = some (c, H')) : OpSim P o a X w c H' := by
  have hargs := opds_ok hF h1
  have fin : ∀ s : Sem Value, (∀ q, builtin b ts o.type q (args.map a.eval) = (do pure (.value (← s)) : Sem Next)) → (∃ v' w' X', s.run P w = .ok v' w' ∧ VRel X' w' c v' ∧ HRel X' H' w' ∧ Stp X w X' w') → OpSim P o a X w c H' := by
    rintro s hs ⟨v', w', X', k1, k2, k3, k4⟩
    refine ⟨.value v', w', X', ?_, .inl ⟨_, rfl, k2⟩, k3, k4⟩
    unfold execOp
    simp only [ho, resolve, Sem.run_bind, Sem.run_pure, Result.andThen_ok, invoke, hs, k1]
  have e1 : args.map a.eval = (args.toList.map a.eval).toArray := by apply Array.ext'; simp
  have e2 : ts = ts.toList.toArray := by simp
  generalize args.toList.map a.eval = vs at hargs e1
  generalize htl : ts.toList = tl at hm e2
  unfold cmpBuiltin at hm
  split at hm
  · rename_i t x
    match vs, hargs.1 with
    | [v], _ =>
      have hx := hargs.2 0 (x.ev σ) v (by simp) (by simp)
      refine fin (Builtin.len_ ts o.type (args.map a.eval)) (fun q => by simp only [builtin]) ?_
      rw [e1, e2]
      split at hm
      · rename_i hu
        cases hm
        simp only [stepOp, Option.bind_eq_some_iff, Option.some.injEq, Prod.mk.injEq] at h
        obtain ⟨n, hn, rfl, rfl⟩ := h
        generalize x.ev σ = xv at hx hn
        unfold lenAV at hn
        cases xv <;> simp only [reduceCtorEq, Option.some.injEq] at hn
        subst hn
        cases hx with
        | str hbs =>
          subst hbs
          rename_i bs _
          exact ⟨.int .i64 (bs.size : Nat), w, X, by simp [Builtin.len_, run_underlying hu, goInt], by simp; exact .int, hH, Stp.refl X w⟩
      · rename_i e hu
        cases hm
        simp only [stepOp, Option.bind_eq_some_iff, Option.some.injEq, Prod.mk.injEq] at h
        obtain ⟨n, hn, rfl, rfl⟩ := h
        generalize x.ev σ = xv at hx hn
        have sl : ∀ b k cp, v = .slice b k cp → k = n → ∃ v' w' X', (Builtin.len_ [t].toArray o.type [v].toArray).run P w = .ok v' w' ∧ VRel X' w' (.int .i64 (n : Int)) v' ∧ HRel X' H w' ∧ Stp X w X' w' := by
          rintro b k cp rfl rfl
          exact ⟨.int .i64 (k : Nat), w, X, by simp [Builtin.len_, run_underlying hu, goInt], .int, hH, Stp.refl X w⟩
        unfold lenAV at hn
        cases xv <;> simp only [reduceCtorEq, Option.some.injEq] at hn <;> subst hn
        · cases hx with
          | nils => exact sl _ _ _ rfl rfl
        · cases hx with
          | slice => exact sl _ _ _ rfl rfl
        · cases hx with
          | islice0 => exact sl _ _ _ rfl rfl
          | islice f hl => exact sl _ _ _ rfl hl.symm
      · rename_i kt e hu
        cases hm
        simp only [stepOp, Option.bind_eq_some_iff, Option.some.injEq, Prod.mk.injEq] at h
        obtain ⟨n, hn, rfl, rfl⟩ := h
        generalize x.ev σ = xv at hx hn
        unfold lenAV at hn
        cases xv <;> simp only [reduceCtorEq, Option.some.injEq] at hn
        · subst hn
          cases hx
          exact ⟨.int .i64 ((0 : Nat) : Int), w, X, by simp [Builtin.len_, run_underlying hu, goInt], .int, hH, Stp.refl X w⟩
        · split at hn
          case h_2 => cases hn
          rename_i es clock hb
          cases hn
          obtain ⟨bi, ms, k1, k2, k3, k4, k5, k6⟩ := map_at hH hx hb
          subst k3
          have hget : (getObj bi.B).run P w = .ok (.map ms.toArray clock) w := by simp [getObj, Sem.run, k4]
          exact ⟨.int .i64 (ms.length : Nat), w, X, by simp [Builtin.len_, run_underlying hu, goInt, hget], by rw [k5]; exact .int, hH, Stp.refl X w⟩
      · cases hm
  · rename_i t u s x
    match vs, hargs.1 with
    | [v1, v2], _ =>
      have hs := hargs.2 0 (s.ev σ) v1 (by simp) (by simp)
      have hx := hargs.2 1 (x.ev σ) v2 (by simp) (by simp)
      refine fin (Builtin.append_ ts o.type (args.map a.eval)) (fun q => by simp only [builtin]) ?_
      rw [e1, e2]
      simp only [Option.bind_eq_some_iff] at hm
      obtain ⟨⟨e, za, sz, bytes⟩, he, hm⟩ := hm
      obtain ⟨i, z, E, hz⟩ := elemOf_ok he
      split at hm
      · rename_i e' hu2
        cases hm
        exact append_ok hH hs hx E hu2 (.inl ⟨_, rfl⟩) h
      · rename_i hu2
        cases hm
        exact append_ok hH hs hx E hu2 (.inr rfl) h
      · cases hm
  · rename_i t u d s
    match vs, hargs.1 with
    | [v1, v2], _ =>
      have hd := hargs.2 0 (d.ev σ) v1 (by simp) (by simp)
      have hs := hargs.2 1 (s.ev σ) v2 (by simp) (by simp)
      refine fin (Builtin.copy_ ts o.type (args.map a.eval)) (fun q => by simp only [builtin]) ?_
      rw [e1, e2]
      simp only [Option.bind_eq_some_iff] at hm
      obtain ⟨⟨e, za, sz, bytes⟩, he, hm⟩ := hm
      obtain ⟨i, z, E, hz⟩ := elemOf_ok he
      cases hm
      exact copy_ok hH hd hs E.und (by simp [sizeOf, typeInfo, E.info, E.hsize]) h
  · rename_i x rest
    cases hm
    simp only [stepOp, Option.bind_eq_some_iff, Option.some.injEq, Prod.mk.injEq] at h
    obtain ⟨r, hr, rfl, rfl⟩ := h
    cases vs with
    | nil => have := hargs.1; simp at this
    | cons v vs =>
      have hx := hargs.2 0 (x.ev σ) v (by simp) (by simp)
      have hxs : VRels X w (rest.map (·.ev σ)) vs := ⟨by have := hargs.1; simpa using this, fun i c u p q => hargs.2 (i + 1) c u (by simpa using p) (by simpa using q)⟩
      obtain ⟨u, k1, k2⟩ := mmAV_ok false P hx hxs hr
      refine fin (Builtin.min_ ts o.type (args.map a.eval)) (fun q => by simp only [builtin]) ⟨u, w, X, ?_, k2, hH, Stp.refl X w⟩
      rw [e1]
      simpa [Builtin.min_] using k1
  · rename_i x rest
    cases hm
    simp only [stepOp, Option.bind_eq_some_iff, Option.some.injEq, Prod.mk.injEq] at h
    obtain ⟨r, hr, rfl, rfl⟩ := h
    cases vs with
    | nil => have := hargs.1; simp at this
    | cons v vs =>
      have hx := hargs.2 0 (x.ev σ) v (by simp) (by simp)
      have hxs : VRels X w (rest.map (·.ev σ)) vs := ⟨by have := hargs.1; simpa using this, fun i c u p q => hargs.2 (i + 1) c u (by simpa using p) (by simpa using q)⟩
      obtain ⟨u, k1, k2⟩ := mmAV_ok true P hx hxs hr
      refine fin (Builtin.max_ ts o.type (args.map a.eval)) (fun q => by simp only [builtin]) ⟨u, w, X, ?_, k2, hH, Stp.refl X w⟩
      rw [e1]
      simpa [Builtin.max_] using k1
  · cases hm


theorem Option.of_req {p : Prop} [Decidable p] {α : Type} {x : Option α} {y : α} (h : req p x = some y) : p ∧ x = some y := by
  unfold req at h
  split at h
  · rename_i hp; exact ⟨hp, h⟩
  · cases h

def MOp.isCall : MOp → Bool
  | .call .. | .callv .. => true
  | _ => false

/-- Every operation that is no call. -/
theorem op_ok (hH : HRel X H w) (hF : FRel X w σ a.tmps) {m : MOp} (hc : cmpOp P o.op = some m) (hm : m.isCall = false) {c : AV} {H' : Heap} (h : stepOp σ H m = some (c, H')) : OpSim P o a X w c H' := by
  unfold cmpOp at hc
  split at hc
  case h_1 x ho =>
    simp only [Option.bind_eq_some_iff, Option.some.injEq] at hc
    obtain ⟨y, h1, rfl⟩ := hc
    simp only [stepOp, Option.some.injEq, Prod.mk.injEq] at h
    obtain ⟨rfl, rfl⟩ := h
    exact op_move hH hF (.inl ho) h1
  case h_2 x ho =>
    simp only [Option.bind_eq_some_iff, Option.some.injEq] at hc
    obtain ⟨y, h1, rfl⟩ := hc
    simp only [stepOp, Option.some.injEq, Prod.mk.injEq] at h
    obtain ⟨rfl, rfl⟩ := h
    exact op_move hH hF (.inr ho) h1
  case h_3 cx ax bx ho =>
    simp only [Option.bind_eq_some_iff, Option.some.injEq] at hc
    obtain ⟨y1, h1, y2, h2, y3, h3, rfl⟩ := hc
    simp only [stepOp] at h
    split at h
    case h_2 => cases h
    rename_i t ht
    simp only [Option.some.injEq, Prod.mk.injEq] at h
    obtain ⟨rfl, rfl⟩ := h
    exact op_pick hH hF ho h1 h2 h3 ht
  case h_4 e ho =>
    split at hc
    case h_2 => cases hc
    rename_i i hi
    split at hc
    case h_2 => cases hc
    rename_i z hz
    simp only [Option.bind_eq_some_iff, Option.some.injEq] at hc
    obtain ⟨l, hl, rfl⟩ := hc
    simp only [stepOp] at h
    obtain ⟨hok, h⟩ := Option.of_req h
    simp only [Option.some.injEq, Prod.mk.injEq] at h
    obtain ⟨rfl, rfl⟩ := h
    exact op_alloc hH ho hi hz hl hok
  case h_5 e x ho =>
    simp only [Option.bind_eq_some_iff, Option.some.injEq] at hc
    obtain ⟨y, h1, rfl⟩ := hc
    simp only [stepOp, Option.bind_eq_some_iff, Option.some.injEq, Prod.mk.injEq] at h
    obtain ⟨cs, hcs, rfl, rfl⟩ := h
    obtain ⟨hq, hcs⟩ := Option.of_req hcs
    cases hcs
    exact op_box hH hF ho h1 hq.2
  case h_6 t parts ho =>
    simp only [Option.bind_eq_some_iff, Option.some.injEq] at hc
    obtain ⟨⟨z, pl⟩, hp, za, hz, r, hr, rfl⟩ := hc
    simp only [stepOp, Option.bind_eq_some_iff, Option.some.injEq, Prod.mk.injEq] at h
    obtain ⟨cs, hf, rfl, rfl⟩ := h
    exact op_build hH hF ho hp hz hr hf
  case h_7 t n parts ho =>
    simp only [Option.bind_eq_some_iff] at hc
    obtain ⟨⟨e, za, sz, bytes⟩, he, hc⟩ := hc
    split at hc
    case isFalse => cases hc
    rename_i hn
    simp only [Option.bind_eq_some_iff, Option.some.injEq] at hc
    obtain ⟨r, hr, rfl⟩ := hc
    simp only [stepOp] at h
    obtain ⟨hok, h⟩ := Option.of_req h
    simp only [Option.bind_eq_some_iff, Option.some.injEq, Prod.mk.injEq] at h
    obtain ⟨rs, hf, rfl, rfl⟩ := h
    exact op_mkslice hH hF ho he hn hr hok hf
  case h_8 t x ho =>
    simp only [Option.bind_eq_some_iff, Option.some.injEq] at hc
    obtain ⟨g, hg, y, h1, rfl⟩ := hc
    simp only [stepOp, Option.bind_eq_some_iff, Option.some.injEq, Prod.mk.injEq] at h
    obtain ⟨v, he, rfl, rfl⟩ := h
    exact op_load hH hF ho hg h1 he
  case h_9 t x v ho =>
    simp only [Option.bind_eq_some_iff, Option.some.injEq] at hc
    obtain ⟨g, hg, y, h1, u, h2, rfl⟩ := hc
    simp only [stepOp, Option.bind_eq_some_iff, Option.some.injEq, Prod.mk.injEq] at h
    obtain ⟨H2, he, rfl, rfl⟩ := h
    exact op_store hH hF ho hg h1 h2 he
  case h_10 x ho =>
    simp only [Option.bind_eq_some_iff, Option.some.injEq] at hc
    obtain ⟨y, h1, rfl⟩ := hc
    simp only [stepOp] at h
    split at h <;> (try (cases h; done)) <;> rename_i hq <;> simp only [Option.some.injEq, Prod.mk.injEq] at h <;> obtain ⟨rfl, rfl⟩ := h <;> rw [← hq]
    · exact op_nilchk hH hF ho h1 (.inl ⟨_, _, _, _, hq⟩)
    · exact op_nilchk hH hF ho h1 (.inr (.inl ⟨_, _, _, hq⟩))
    · exact op_nilchk hH hF ho h1 (.inr (.inr ⟨_, _, _, hq⟩))
  case h_11 op t x y u ho =>
    simp only [Option.bind_eq_some_iff, Option.some.injEq] at hc
    obtain ⟨x', h1, y', h2, rfl⟩ := hc
    simp only [stepOp, Option.bind_eq_some_iff, Option.some.injEq, Prod.mk.injEq] at h
    obtain ⟨v, he, rfl, rfl⟩ := h
    exact op_bin hH hF ho h1 h2 he
  case h_12 op t x ho =>
    simp only [Option.bind_eq_some_iff, Option.some.injEq] at hc
    obtain ⟨x', h1, rfl⟩ := hc
    simp only [stepOp, Option.bind_eq_some_iff, Option.some.injEq, Prod.mk.injEq] at h
    obtain ⟨v, he, rfl, rfl⟩ := h
    exact op_un hH hF ho h1 he
  case h_13 src dst x ho =>
    simp only [Option.bind_eq_some_iff] at hc
    obtain ⟨x', h1, hc⟩ := hc
    exact op_conv hH hF ho h1 hc h
  case h_14 f first captured ho =>
    simp only [Option.bind_eq_some_iff, Option.some.injEq] at hc
    obtain ⟨p, h1, q, h2, rfl⟩ := hc
    simp only [stepOp, Option.some.injEq, Prod.mk.injEq] at h
    obtain ⟨rfl, rfl⟩ := h
    exact op_mkfn hH hF ho h1 h2
  case h_15 t ho =>
    cases hc
    simp only [stepOp, Option.some.injEq, Prod.mk.injEq] at h
    obtain ⟨rfl, rfl⟩ := h
    exact op_mkmap hH ho
  case h_16 t l cc ho =>
    simp only [Option.bind_eq_some_iff, Option.some.injEq] at hc
    obtain ⟨⟨e, za, sz, bytes⟩, he, l', h1, c', h2, rfl⟩ := hc
    simp only [stepOp] at h
    exact op_make hH hF ho he h1 h2 h
  case h_17 t x lo hi mx ho =>
    simp only [Option.bind_eq_some_iff] at hc
    obtain ⟨x', h1, lo', h2, hi', h3, mx', h4, hc⟩ := hc
    split at hc
    · rename_i hu
      split at hc
      · cases hc
        simp only [stepOp] at h
        split at h
        case h_2 => cases h
        rename_i s hs
        simp only [Option.bind_eq_some_iff, Option.some.injEq, Prod.mk.injEq] at h
        obtain ⟨v, he, rfl, rfl⟩ := h
        exact op_sslc hH hF ho h1 h2 h3 h4 hu hs he
      · cases hc
    · rename_i e hu
      simp only [Option.bind_eq_some_iff, Option.some.injEq] at hc
      obtain ⟨g, hg, rfl⟩ := hc
      simp only [stepOp, Option.bind_eq_some_iff, Option.some.injEq, Prod.mk.injEq] at h
      obtain ⟨v, he, rfl, rfl⟩ := h
      exact op_slc hH hF ho h1 h2 h3 h4 hu hg he
    · cases hc
  case h_18 s x f ho =>
    simp only [Option.bind_eq_some_iff] at hc
    obtain ⟨x', h1, hc⟩ := hc
    split at hc
    case h_2 => cases hc
    rename_i fields hu
    simp only [Option.bind_eq_some_iff] at hc
    obtain ⟨fl, hf, g, hg, hc⟩ := hc
    split at hc
    case isFalse => cases hc
    rename_i hpos
    cases hc
    simp only [stepOp, Option.bind_eq_some_iff, Option.some.injEq, Prod.mk.injEq] at h
    obtain ⟨v, he, rfl, rfl⟩ := h
    exact op_faddr hH hF ho h1 hu hf hg hpos he
  case h_19 s x f ho =>
    simp only [Option.bind_eq_some_iff] at hc
    obtain ⟨x', h1, hc⟩ := hc
    split at hc
    case h_2 => cases hc
    rename_i fields hu
    simp only [Option.bind_eq_some_iff, Option.some.injEq] at hc
    obtain ⟨fl, hf, g, hg, rfl⟩ := hc
    simp only [stepOp] at h
    split at h
    case h_2 => cases h
    rename_i cs hcs
    simp only [Option.bind_eq_some_iff, Option.some.injEq, Prod.mk.injEq] at h
    obtain ⟨v, he, rfl, rfl⟩ := h
    exact op_fld hH hF ho h1 hu hf hg hcs he
  case h_20 t x ix ho =>
    simp only [Option.bind_eq_some_iff] at hc
    obtain ⟨x', h1, ix', h2, hc⟩ := hc
    split at hc
    · rename_i e hu
      simp only [Option.bind_eq_some_iff, Option.some.injEq] at hc
      obtain ⟨g, hg, rfl⟩ := hc
      simp only [stepOp, Option.bind_eq_some_iff, Option.some.injEq, Prod.mk.injEq] at h
      obtain ⟨n, hn, v, he, rfl, rfl⟩ := h
      exact op_iaddr hH hF ho h1 h2 hu hg hn he
    · rename_i n e hu
      simp only [Option.bind_eq_some_iff, Option.some.injEq] at hc
      obtain ⟨g, hg, rfl⟩ := hc
      simp only [stepOp, Option.bind_eq_some_iff, Option.some.injEq, Prod.mk.injEq] at h
      obtain ⟨n, hn, v, he, rfl, rfl⟩ := h
      exact op_aaddr hH hF ho h1 h2 hu hg hn he
    · cases hc
  case h_21 t x ix ho =>
    simp only [Option.bind_eq_some_iff] at hc
    obtain ⟨x', h1, ix', h2, hc⟩ := hc
    split at hc
    · rename_i hu
      cases hc
      simp only [stepOp, Option.bind_eq_some_iff] at h
      obtain ⟨n, hn, h⟩ := h
      split at h
      case h_2 => cases h
      rename_i s hs
      obtain ⟨h0, h⟩ := Option.of_req h
      simp only [Option.bind_eq_some_iff, Option.some.injEq, Prod.mk.injEq] at h
      obtain ⟨b, hb, rfl, rfl⟩ := h
      exact op_sidx hH hF ho h1 h2 hu hn h0 hs hb
    · rename_i len e hu
      simp only [Option.bind_eq_some_iff, Option.some.injEq] at hc
      obtain ⟨g, hg, rfl⟩ := hc
      simp only [stepOp, Option.bind_eq_some_iff] at h
      obtain ⟨n, hn, h⟩ := h
      split at h
      case h_2 => cases h
      rename_i cs hcs
      obtain ⟨h0, h⟩ := Option.of_req h
      simp only [Option.bind_eq_some_iff, Option.some.injEq, Prod.mk.injEq] at h
      obtain ⟨v, he, rfl, rfl⟩ := h
      exact op_aidx hH hF ho h1 h2 hu hg hn h0 hcs he
    · cases hc
  case h_22 t x k ok ho =>
    simp only [Option.bind_eq_some_iff] at hc
    obtain ⟨x', h1, k', h2, hc⟩ := hc
    split at hc
    case h_2 => cases hc
    rename_i kt e hu
    simp only [Option.bind_eq_some_iff] at hc
    obtain ⟨kk, hk, hc⟩ := hc
    split at hc
    case h_2 => cases hc
    rename_i i hi
    split at hc
    case h_2 => cases hc
    rename_i z hz
    simp only [Option.bind_eq_some_iff, Option.some.injEq] at hc
    obtain ⟨za, hza, rfl⟩ := hc
    simp only [stepOp, Option.bind_eq_some_iff, Option.some.injEq, Prod.mk.injEq] at h
    obtain ⟨v, he, rfl, rfl⟩ := h
    exact op_look hH hF ho h1 h2 hu hk hi hz hza he
  case h_23 t m' k v ho =>
    simp only [Option.bind_eq_some_iff] at hc
    obtain ⟨m2, h1, k2, h2, v2, h3, hc⟩ := hc
    split at hc
    case h_2 => cases hc
    rename_i kt e hu
    simp only [Option.bind_eq_some_iff, Option.some.injEq] at hc
    obtain ⟨kk, hk, rfl⟩ := hc
    simp only [stepOp, Option.bind_eq_some_iff, Option.some.injEq, Prod.mk.injEq] at h
    obtain ⟨H2, he, rfl, rfl⟩ := h
    exact op_mupd hH hF (.inl ho) h1 h2 h3 hu hk he
  case h_24 t m' k v ho =>
    simp only [Option.bind_eq_some_iff] at hc
    obtain ⟨m2, h1, k2, h2, v2, h3, hc⟩ := hc
    split at hc
    case h_2 => cases hc
    rename_i kt e hu
    simp only [Option.bind_eq_some_iff, Option.some.injEq] at hc
    obtain ⟨kk, hk, rfl⟩ := hc
    simp only [stepOp, Option.bind_eq_some_iff, Option.some.injEq, Prod.mk.injEq] at h
    obtain ⟨H2, he, rfl, rfl⟩ := h
    exact op_mupd hH hF (.inr ho) h1 h2 h3 hu hk he
  case h_25 x i ho =>
    simp only [Option.bind_eq_some_iff, Option.some.injEq] at hc
    obtain ⟨x', h1, rfl⟩ := hc
    simp only [stepOp] at h
    split at h
    case h_2 => cases h
    rename_i vs hvs
    simp only [Option.bind_eq_some_iff, Option.some.injEq, Prod.mk.injEq] at h
    obtain ⟨v, he, rfl, rfl⟩ := h
    exact op_ext hH hF ho h1 hvs he
  case h_26 b args ts ho =>
    simp only [Option.bind_eq_some_iff] at hc
    obtain ⟨xs, h1, hc⟩ := hc
    exact op_builtin hH hF ho h1 hc h
  case h_27 =>
    split at hc
    case isTrue => cases hc
    simp only [Option.bind_eq_some_iff, Option.some.injEq] at hc
    obtain ⟨xs, h1, rfl⟩ := hc
    cases hm
  case h_28 =>
    simp only [Option.bind_eq_some_iff, Option.some.injEq] at hc
    obtain ⟨xs, h1, rfl⟩ := hc
    cases hm
  case h_29 => cases hc

/-- A slice literal that is immutable from its birth on. -/
def frzOp : MOp → MOp
  | .mkslice z n ps => .mkfrz z n ps
  | m => m

def isT (d : Nat) : Operand → Bool
  | .tmp t => t == d
  | _ => false

/-- How an operation uses a slot: not (0), reading alone as what is appended or as a call's last argument (1), otherwise (2). -/
def frzUse (d : Nat) (p : Oper) : Nat :=
  match p.op with
  | .call { callee := .builtin .append, args, .. } => match args.toList with
    | [s, x] => if isT d s then 2 else if isT d x then 1 else 0
    | _ => 2
  | .call { callee := .value (.func _), args, .. } => if args.toList.dropLast.any (isT d) then 2 else if args.toList.getLast?.any (isT d) then 1 else 0
  | op => if op.operands.toList.any (isT d) then 2 else 0

def frzAt (ops : Array Oper) (o : Oper) : Bool :=
  match o.op, o.dst with
  | .buildSlice .., some d => ops.toList.any (fun p => frzUse d p == 1) && !ops.toList.any (fun p => frzUse d p == 2)
  | _, _ => false

def cmpOpF (P : Program) (ops : Array Oper) (o : Oper) : Option MOp := (cmpOp P o.op).bind fun m => some (if frzAt ops o = true then frzOp m else m)

theorem cmpOpF_call {ops : Array Oper} {m : MOp} (h : cmpOpF P ops o = some m) (hn : ∀ t n ps, o.op ≠ .buildSlice t n ps) : cmpOp P o.op = some m := by
  simp only [cmpOpF, Option.bind_eq_some_iff, Option.some.injEq] at h
  obtain ⟨m', h1, h2⟩ := h
  rw [if_neg, h1] at *
  · rw [← h2]
  · unfold frzAt
    split
    · rename_i ho _; exact absurd ho (hn _ _ _)
    · simp

theorem op_okF (hH : HRel X H w) (hF : FRel X w σ a.tmps) {ops : Array Oper} {m : MOp} (hc : cmpOpF P ops o = some m) (hm : m.isCall = false) {c : AV} {H' : Heap} (h : stepOp σ H m = some (c, H')) : OpSim P o a X w c H' := by
  simp only [cmpOpF, Option.bind_eq_some_iff, Option.some.injEq] at hc
  obtain ⟨m', h1, h2⟩ := hc
  split at h2
  case isFalse => subst h2; exact op_ok hH hF h1 hm h
  rename_i hfz
  have same : frzOp m' = m' → OpSim P o a X w c H' := fun e => by rw [e] at h2; subst h2; exact op_ok hH hF h1 hm h
  cases m' <;> try exact same rfl
  rename_i z n ps
  obtain ⟨t, k, parts, ho⟩ : ∃ t k parts, o.op = .buildSlice t k parts := by
    unfold frzAt at hfz
    split at hfz
    · rename_i ho _; exact ⟨_, _, _, ho⟩
    · cases hfz
  rw [ho] at h1
  simp only [cmpOp, Option.bind_eq_some_iff] at h1
  obtain ⟨⟨e, za, sz, bytes⟩, he, h1⟩ := h1
  split at h1
  case isFalse => cases h1
  rename_i hn
  simp only [Option.bind_eq_some_iff, Option.some.injEq] at h1
  obtain ⟨r, hr, hz⟩ := h1
  cases hz
  simp only [frzOp] at h2
  subst h2
  simp only [stepOp] at h
  obtain ⟨hok, h⟩ := Option.of_req h
  simp only [Option.bind_eq_some_iff, Option.some.injEq, Prod.mk.injEq] at h
  obtain ⟨rs, hf, rfl, rfl⟩ := h
  exact op_mkfrz hH hF ho he hn hr hok hf

end
end Go.Ab
