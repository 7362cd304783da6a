/-
  The translation of one operation of the model into one of the abstract machine, and that they agree.
  Conditions: none.
-/
import Derived.Test.YthpmmdlhoaonaaaAbMaps
import Derived.Calls
namespace Go.Ab

def cvt1 : Value → Option AV
  | .int k n => some (.int k n)
  | .bool b => some (.bool b)
  | .string s => some (.str s.data.toList)
  | .pointer none => some .nilp
  | .slice none 0 0 => some .nils
  | .nilFunc => some .nilf
  | .map none => some .nilmap
  | .nilIface => some .nilI
  | .func (.func f) first captured => if first.size = 0 ∧ captured.size = 0 then some (.func f [] []) else none
  | _ => none

def cvtL : List Value → Option Row
  | [] => some []
  | v :: vs => (cvt1 v).bind fun c => (cvtL vs).bind fun cs => some (c :: cs)

def cvt : Value → Option AV
  | .agg cs => (cvtL cs.toList).bind fun l => some (.agg l)
  | v => cvt1 v

theorem cvt1_ok {v : Value} {c : AV} (h : cvt1 v = some c) (X : Ctx) (w : World) : VRel X w c v := by
  unfold cvt1 at h
  split at h <;> (try (cases h; done)) <;> (try (cases h; first | exact .int | exact .bool | exact .str rfl | exact .nilp | exact .nils | exact .nilf | exact .nilmap | exact .nilI))
  split at h
  · rename_i f first captured hq
    cases h
    have h1 : first = #[] := Array.eq_empty_of_size_eq_zero hq.1
    have h2 : captured = #[] := Array.eq_empty_of_size_eq_zero hq.2
    subst h1 h2
    exact .func (us := []) (vs := []) rfl rfl (by simp) (by simp)
  · cases h

theorem cvtL_ok {vs : List Value} {cs : Row} (h : cvtL vs = some cs) (X : Ctx) (w : World) : VRels X w cs vs := by
  induction vs generalizing cs with
  | nil => simp only [cvtL, Option.some.injEq] at h; subst h; exact .nil X w
  | cons v vs ih =>
    simp only [cvtL, Option.bind_eq_some_iff, Option.some.injEq] at h
    obtain ⟨c, h1, l, h2, rfl⟩ := h
    exact .cons (cvt1_ok h1 X w) (ih h2)

theorem cvt_ok {v : Value} {c : AV} (h : cvt v = some c) (X : Ctx) (w : World) : VRel X w c v := by
  unfold cvt at h
  split at h
  · rename_i cs
    simp only [Option.bind_eq_some_iff, Option.some.injEq] at h
    obtain ⟨l, h1, rfl⟩ := h
    have := cvtL_ok h1 X w
    exact .agg (vs := cs.toList) this.1 this.2
  · exact cvt1_ok h X w

def cmpOpd : Operand → Option Opd
  | .tmp t => some (.tmp t)
  | .const v => (cvt v).bind fun c => some (.lit c)
  | .func f => some (.lit (.func f [] []))
  | .global _ => none

def cmpOpds : List Operand → Option (List Opd)
  | [] => some []
  | x :: xs => (cmpOpd x).bind fun y => (cmpOpds xs).bind fun ys => some (y :: ys)

/-- The frames, side by side. -/
def FRel (X : Ctx) (w : World) (σ : Env) (tmps : Array Value) : Prop := ∀ t, VRel X w (σ.get t) (tmps.getD t undef)

theorem opd_ok {X : Ctx} {w : World} {σ : Env} {a : Act} (hF : FRel X w σ a.tmps) {x : Operand} {y : Opd} (h : cmpOpd x = some y) : VRel X w (y.ev σ) (a.eval x) := by
  cases x <;> simp only [cmpOpd, Option.bind_eq_some_iff, Option.some.injEq, reduceCtorEq] at h
  · subst h; exact hF _
  · obtain ⟨c, h1, rfl⟩ := h; exact cvt_ok h1 X w
  · subst h; exact .func (us := []) (vs := []) rfl rfl (by simp) (by simp)

theorem opds_ok {X : Ctx} {w : World} {σ : Env} {a : Act} (hF : FRel X w σ a.tmps) : ∀ {xs : List Operand} {ys : List Opd}, cmpOpds xs = some ys → VRels X w (ys.map (·.ev σ)) (xs.map a.eval)
  | [], ys, h => by simp only [cmpOpds, Option.some.injEq] at h; subst h; exact .nil X w
  | x :: xs, ys, h => by
    simp only [cmpOpds, Option.bind_eq_some_iff, Option.some.injEq] at h
    obtain ⟨y, h1, l, h2, rfl⟩ := h
    exact .cons (opd_ok hF h1) (opds_ok hF h2)

def cmpOO : Option Operand → Option (Option Opd)
  | none => some none
  | some x => (cmpOpd x).bind fun y => some (some y)

theorem oo_ok {X : Ctx} {w : World} {σ : Env} {a : Act} (hF : FRel X w σ a.tmps) {x : Option Operand} {y : Option Opd} (h : cmpOO x = some y) : ORel X w (y.map (·.ev σ)) (x.map a.eval) := by
  cases x <;> simp only [cmpOO, Option.bind_eq_some_iff, Option.some.injEq] at h
  · subst h; trivial
  · obtain ⟨z, h1, rfl⟩ := h; exact opd_ok hF h1

/-- How a type's values are read: one cell, or so many. -/
def aggOf (P : Program) (t : TypeId) : Option (Option Nat) :=
  match P.underlying t with
  | some d => some (if aggD d then some (P.cellsOf t) else none)
  | none => none

theorem aggOf_ok {P : Program} {t : TypeId} {agg : Option Nat} (h : aggOf P t = some agg) (w : World) :
    (agg = none ∧ (isAgg t).run P w = .ok false w) ∨ (∃ n, agg = some n ∧ (isAgg t).run P w = .ok true w ∧ (sizeOf t).run P w = .ok n w) := by
  unfold aggOf at h
  split at h
  · rename_i d hu
    cases h
    cases hd : aggD d
    · exact .inl ⟨by simp, by rw [isAgg_run hu, hd]⟩
    · exact .inr ⟨P.cellsOf t, by simp, by rw [isAgg_run hu, hd], cellsOf_run hu w⟩
  · cases h

/-- A slice's element: its type, its zero row, its size in cells and in bytes. -/
def elemOf' (P : Program) (t : TypeId) : Option (TypeId × Row × Nat × Nat) :=
  match P.underlying t with
  | some (.slice e) => match P.info? e with
    | some i => match i.zero with
      | some z => if z.cells.size = i.size ∧ 0 < i.size ∧ 0 < i.bytes then (cvtL z.cells.toList).bind fun l => some (e, l, i.size, i.bytes) else none
      | none => none
    | none => none
  | _ => none

theorem elemOf_ok {P : Program} {t e : TypeId} {za : Row} {sz bytes : Nat} (h : elemOf' P t = some (e, za, sz, bytes)) : ∃ i z, ElemOk P t e i z sz bytes ∧ ∀ X w, VRels X w za z.cells.toList := by
  unfold elemOf' at h
  split at h
  case h_2 => cases h
  rename_i e' hu
  split at h
  case h_2 => cases h
  rename_i i hi
  split at h
  case h_2 => cases h
  rename_i z hz
  split at h
  case isFalse => cases h
  rename_i hq
  simp only [Option.bind_eq_some_iff, Option.some.injEq, Prod.mk.injEq] at h
  obtain ⟨l, hl, rfl, rfl, rfl, rfl⟩ := h
  exact ⟨i, z, ⟨hu, hi, hz, rfl, rfl, hq.1, hq.2.1, hq.2.2⟩, fun X w => cvtL_ok hl X w⟩

def places (P : Program) (t : TypeId) : Option (Value × (Nat → Option (Nat × Nat))) :=
  match P.info? t, P.underlying t with
  | some it, some (.array _ e) =>
    match it.zero, P.info? e with
    | some z, some ie => some (z, fun i => some (i * ie.size, ie.size))
    | _, _ => none
  | some it, some (.struct fields) =>
    match it.zero, fields.toList.mapM (fun f => (P.info? f.type).map fun i => (f.offset, i.size)) with
    | some z, some places => some (z, fun i => places.toArray[i]?)
    | _, _ => none
  | _, _ => none

def cmpParts (pl : Nat → Option (Nat × Nat)) : List (Nat × Operand) → Option (List (Nat × Nat × Opd))
  | [] => some []
  | (i, x) :: ps => (pl i).bind fun p => (cmpOpd x).bind fun y => (cmpParts pl ps).bind fun r => some ((p.1, p.2, y) :: r)

def cmpSParts : List (Nat × Operand) → Option (List (Nat × Opd))
  | [] => some []
  | (i, x) :: ps => (cmpOpd x).bind fun y => (cmpSParts ps).bind fun r => some ((i, y) :: r)

theorem parts_ok {X : Ctx} {w : World} {σ : Env} {a : Act} (hF : FRel X w σ a.tmps) {pl : Nat → Option (Nat × Nat)} : ∀ {ps : List (Nat × Operand)} {r : List (Nat × Nat × Opd)}, cmpParts pl ps = some r →
    Parts X w pl (r.map fun p => (p.1, p.2.1, p.2.2.ev σ)) (ps.map fun p => (p.1, a.eval p.2))
  | [], r, h => by simp only [cmpParts, Option.some.injEq] at h; subst h; exact .nil
  | (i, x) :: ps, r, h => by
    simp only [cmpParts, Option.bind_eq_some_iff, Option.some.injEq] at h
    obtain ⟨p, h1, y, h2, q, h3, rfl⟩ := h
    exact .cons (by simpa using h1) (opd_ok hF h2) (parts_ok hF h3)

theorem sparts_ok {X : Ctx} {w : World} {σ : Env} {a : Act} (hF : FRel X w σ a.tmps) : ∀ {ps : List (Nat × Operand)} {r : List (Nat × Opd)}, cmpSParts ps = some r →
    SParts X w (r.map fun p => (p.1, p.2.ev σ)) (ps.map fun p => (p.1, a.eval p.2))
  | [], r, h => by simp only [cmpSParts, Option.some.injEq] at h; subst h; exact .nil
  | (i, x) :: ps, r, h => by
    simp only [cmpSParts, Option.bind_eq_some_iff, Option.some.injEq] at h
    obtain ⟨y, h2, q, h3, rfl⟩ := h
    exact .cons (opd_ok hF h2) (sparts_ok hF h3)

/-! ### the translation -/
def isU8 (P : Program) (t : TypeId) : Bool := match P.underlying t with | some (.int .u8) => true | _ => false

def cmpConv (P : Program) (src dst : TypeId) (x : Opd) : Option MOp :=
  match P.underlying src, P.underlying dst with
  | some (.int _), some (.int k) => some (.conv k x)
  | some .string, some (.slice e) => if isU8 P e then some (.ofstr x) else none
  | some (.slice e), some .string => if isU8 P e then some (.tostr x) else none
  | some .string, some .string => some (.strid x)
  | some (.slice _), some (.slice e) => if (src == dst) = true ∧ isU8 P e = true then some (.slid x) else none
  | _, _ => none

def cmpBuiltin (P : Program) (b : Builtin) (ts : List TypeId) (xs : List Opd) : Option MOp :=
  match b, ts, xs with
  | .len, [t], [x] => match P.underlying t with
    | some .string => some (.len 0 x)
    | some (.slice _) => some (.len 1 x)
    | some (.map ..) => some (.len 2 x)
    | _ => none
  | .append, [t, u], [s, x] => (elemOf' P t).bind fun e => match P.underlying u with
    | some (.slice _) | some .string => some (.append e.2.2.1 e.2.2.2 s x)
    | _ => none
  | .copy, [t, _], [d, s] => (elemOf' P t).bind fun e => some (.copy e.2.2.1 d s)
  | .min, _, x :: xs => some (.minmax false x xs)
  | .max, _, x :: xs => some (.minmax true x xs)
  | _, _, _ => none

def cmpOp (P : Program) : Op → Option MOp
  | .move x | .assign x => (cmpOpd x).bind fun y => some (.mv y)
  | .pick c a b => (cmpOpd c).bind fun c => (cmpOpd a).bind fun a => (cmpOpd b).bind fun b => some (.pick c a b)
  | .alloc e => match P.info? e with
    | some i => match i.zero with
      | some z => (cvtL z.cells.toList).bind fun l => some (.zbox l)
      | none => none
    | none => none
  | .box e x => (cmpOpd x).bind fun y => some (.box (P.cellsOf e) y)
  | .build t parts => (places P t).bind fun p => (cvtL p.1.cells.toList).bind fun z => (cmpParts p.2 parts.toList).bind fun r => some (.build z r)
  | .buildSlice t n parts => (elemOf' P t).bind fun e => if n * e.2.2.1 ≤ 16777216 then (cmpSParts parts.toList).bind fun r => some (.mkslice e.2.1 n r) else none
  | .load t x => (aggOf P t).bind fun g => (cmpOpd x).bind fun y => some (.load g y)
  | .store t x v => (aggOf P t).bind fun _ => (cmpOpd x).bind fun y => (cmpOpd v).bind fun u => some (.store (P.cellsOf t) y u)
  | .nilCheck x => (cmpOpd x).bind fun y => some (.nilchk y)
  | .binOp op t x y _ => (cmpOpd x).bind fun x => (cmpOpd y).bind fun y => some (.bin op (tkOf P t) x y)
  | .unOp op _ x => (cmpOpd x).bind fun x => some (.un op x)
  | .convert src dst x => (cmpOpd x).bind fun x => cmpConv P src dst x
  | .makeFunc (.func f) first captured => (cmpOpds first.toList).bind fun a => (cmpOpds captured.toList).bind fun b => some (.mkfn f a b)
  | .makeMap _ none => some .mkmap
  | .makeSlice t l c => (elemOf' P t).bind fun e => (cmpOpd l).bind fun l => (cmpOpd c).bind fun c => some (.make e.2.1 e.2.2.2 l c)
  | .slice t x lo hi mx => (cmpOpd x).bind fun x => (cmpOO lo).bind fun lo => (cmpOO hi).bind fun hi => (cmpOO mx).bind fun mx =>
      match P.underlying t with
      | some .string => match mx with
        | none => some (.sslc x lo hi)
        | some _ => none
      | some (.slice e) => (aggOf P e).bind fun _ => some (.slc (P.cellsOf e) x lo hi mx)
      | _ => none
  | .fieldAddr s x f => (cmpOpd x).bind fun x => match P.underlying s with
      | some (.struct fields) => fields[f]?.bind fun fl => (aggOf P fl.type).bind fun _ => if 0 < P.cellsOf fl.type then some (.faddr fl.offset x) else none
      | _ => none
  | .field s x f => (cmpOpd x).bind fun x => match P.underlying s with
      | some (.struct fields) => fields[f]?.bind fun fl => (aggOf P fl.type).bind fun g => some (.fld fl.offset g x)
      | _ => none
  | .indexAddr t x ix => (cmpOpd x).bind fun x => (cmpOpd ix).bind fun ix => match P.underlying t with
      | some (.slice e) => (aggOf P e).bind fun _ => some (.iaddr (P.cellsOf e) x ix)
      | some (.array n e) => (aggOf P e).bind fun _ => some (.aaddr n (P.cellsOf e) x ix)
      | _ => none
  | .index t x ix => (cmpOpd x).bind fun x => (cmpOpd ix).bind fun ix => match P.underlying t with
      | some .string => some (.sidx x ix)
      | some (.array n e) => (aggOf P e).bind fun g => some (.aidx n (P.cellsOf e) g.isSome x ix)
      | _ => none
  | .lookup t x k ok => (cmpOpd x).bind fun x => (cmpOpd k).bind fun k => match P.underlying t with
      | some (.map kt e) => (kkOf P kt).bind fun kk => match P.info? e with
        | some i => match i.zero with
          | some z => (cvt z).bind fun z => some (.look kk z ok x k)
          | none => none
        | none => none
      | _ => none
  | .mapUpdate t m k v | .insert t m k v => (cmpOpd m).bind fun m => (cmpOpd k).bind fun k => (cmpOpd v).bind fun v => match P.underlying t with
      | some (.map kt _) => (kkOf P kt).bind fun kk => some (.mupd kk m k v)
      | _ => none
  | .extract x i => (cmpOpd x).bind fun x => some (.ext i x)
  | .call { callee := .builtin b, args, argTypes } => (cmpOpds args.toList).bind fun xs => cmpBuiltin P b argTypes.toList xs
  | .call { callee := .value (.func f), args, .. } => (cmpOpds args.toList).bind fun xs => some (.call f xs)
  | .call { callee := .value (.tmp t), args, .. } => (cmpOpds args.toList).bind fun xs => some (.callv (.tmp t) xs)
  | _ => none

end Go.Ab
