/- Tariffs as plain data. Conditions: none. -/
import Derived.Test.YtjckmpmnomkmlaaDoorJ37Fn
import Derived.Test.YtjckmpmnomkmlaaDoorAbAcc2
namespace Go.Ab.Tryd.S
open Go.Proofs

theorem mixed : Tryd.prog.follows .mixedOrders = true := by kernel_rfl

structure Pr where
  days : Int
  fr : Int
  to : Int
  fi : Int
  st : Int
deriving DecidableEq
structure Rt where
  pre : List UInt8
  con : Int
  fi : Int
  st : Int
  ps : List Pr
deriving DecidableEq
structure Tf where
  rs : List Rt
  free : Int
deriving DecidableEq

def Pr.row (p : Pr) : Row := [.int .u8 p.days, .int .i64 p.fr, .int .i64 p.to, .int .i64 p.fi, .int .i64 p.st]
def prRows (l : List Pr) : List Row := l.map Pr.row
def Rt.row (r : Rt) : Row := [.str r.pre, .int .i64 r.con, .int .i64 r.fi, .int .i64 r.st, .islice (prRows r.ps)]
def rtRows (l : List Rt) : List Row := l.map Rt.row
def Tf.row (t : Tf) : Row := [.islice (rtRows t.rs), .int .i64 t.free]

@[simp] theorem pr_len (b : Pr) : b.row.length = 5 := rfl
@[simp] theorem rt_len (a : Rt) : a.row.length = 5 := rfl
@[simp] theorem pr_take (b : Pr) : List.take 5 b.row = b.row := rfl
@[simp] theorem rt_take (a : Rt) : List.take 5 a.row = a.row := rfl
@[simp] theorem prRows_len (l : List Pr) : (prRows l).length = l.length := by simp [prRows]
@[simp] theorem rtRows_len (l : List Rt) : (rtRows l).length = l.length := by simp [rtRows]
@[simp] theorem prRows_get {l : List Pr} {j : Nat} (h : j < (prRows l).length) : (prRows l)[j] = (l[j]'(by simpa using h)).row := by simp [prRows]
@[simp] theorem rtRows_get {l : List Rt} {j : Nat} (h : j < (rtRows l).length) : (rtRows l)[j] = (l[j]'(by simpa using h)).row := by simp [rtRows]
@[simp] theorem ok_pr (b : Pr) : okRow b.row = true := rfl
@[simp] theorem ok_rt (b : Rt) : okRow b.row = true := rfl
@[simp] theorem ok_tf (b : Tf) : okRow b.row = true := rfl
@[simp] theorem tf_len (a : Tf) : a.row.length = 2 := rfl
@[simp] theorem tf_take (a : Tf) : List.take 2 a.row = a.row := rfl
theorem pr_cells (b : Pr) : ∀ c ∈ b.row, c.sc = true ∧ Cl 0 c := by
  intro c hc
  simp only [Pr.row, List.mem_cons, List.not_mem_nil, or_false] at hc
  rcases hc with rfl | rfl | rfl | rfl | rfl <;> exact ⟨rfl, .int⟩
theorem prRows_row (l : List Pr) : ∀ row ∈ prRows l, row.length = 5 := map_row pr_len l
theorem prRows_plain (l : List Pr) : Plain (prRows l) := map_plain pr_cells l
theorem rt_cells (a : Rt) : ∀ c ∈ a.row, c.sc = true ∧ Cl 0 c := by
  intro c hc
  simp only [Rt.row, List.mem_cons, List.not_mem_nil, or_false] at hc
  rcases hc with rfl | rfl | rfl | rfl | rfl
  · exact ⟨rfl, .str⟩
  · exact ⟨rfl, .int⟩
  · exact ⟨rfl, .int⟩
  · exact ⟨rfl, .int⟩
  · exact ⟨rfl, cl_plain (prRows_plain _)⟩
theorem rtRows_row (l : List Rt) : ∀ row ∈ rtRows l, row.length = 5 := map_row rt_len l
theorem rtRows_plain (l : List Rt) : Plain (rtRows l) := map_plain rt_cells l
theorem cl_pr (b : Pr) : Cl 0 (.agg b.row) := (Cls.cons .int (Cls.cons .int (Cls.cons .int (Cls.cons .int (Cls.cons .int .nil))))).agg
theorem cl_rt (r : Rt) : Cl 0 (.agg r.row) := (Cls.cons .str (Cls.cons .int (Cls.cons .int (Cls.cons .int (Cls.cons (cl_plain (prRows_plain _)) .nil))))).agg
theorem cl_tf (t : Tf) : Cl 0 (.agg t.row) := (Cls.cons (cl_plain (rtRows_plain _)) (Cls.cons .int .nil)).agg

/-! ### what is valid -/
def money (n : Int) : Bool := decide (0 ≤ n) && decide (n ≤ 1000000000)
def bandB (p : Pr) : Bool := decide (1 ≤ p.days) && decide (p.days ≤ 127) && decide (0 ≤ p.fr) && decide (p.fr < p.to) && decide (p.to ≤ 1440)
def priceB (p : Pr) : Bool := bandB p && money p.fi && money p.st
def digB (b : UInt8) : Bool := decide (48 ≤ b.toNat) && decide (b.toNat ≤ 57)
def fullB (p : Pr) : Bool := decide (p.days = 127) && decide (p.fr = 0) && decide (p.to = 1440)
def lastB (ps : List Pr) : Bool := match ps.getLast? with
  | some p => fullB p
  | none => false
def numsB (r : Rt) : Bool := decide (1 ≤ r.fi) && decide (r.fi ≤ 3600) && decide (1 ≤ r.st) && decide (r.st ≤ 3600)
def sizeB (r : Rt) : Bool := decide (1 ≤ r.ps.length) && decide (r.ps.length ≤ 20)
def rateB (r : Rt) : Bool := decide (r.pre.length ≤ 20) && r.pre.all digB && money r.con && numsB r && sizeB r && r.ps.all priceB && lastB r.ps
def freshB (done : List Rt) (r : Rt) : Bool := done.all fun a => !decide (a.pre = r.pre)
def goodB : List Rt → List Rt → Bool
  | _, [] => true
  | done, r :: t => rateB r && (freshB done r && goodB (done ++ [r]) t)
def validB (t : Tf) : Bool := decide (t.rs.length ≤ 1000) && decide (0 ≤ t.free) && decide (t.free ≤ 3600) && goodB [] t.rs

/-- What a model's numbers obey. -/
structure PrOk (p : Pr) : Prop where
  d : 0 ≤ p.days ∧ p.days < 256
def I64 (n : Int) : Prop := -9223372036854775808 ≤ n ∧ n < 9223372036854775808
structure RtOk (r : Rt) : Prop where
  ps : ∀ p ∈ r.ps, PrOk p
  con : I64 r.con
  fi : I64 r.fi
  st : I64 r.st
structure TfOk (t : Tf) : Prop where
  rs : ∀ r ∈ t.rs, RtOk r
  free : I64 t.free

/-! ### moments -/
def dayN (at_ : Int) : Nat := (at_ / 86400000 % 7).toNat
def minN (at_ : Int) : Int := at_ / 60000 % 1440
def contB (at_ : Int) (p : Pr) : Bool := decide (p.days / ((2 ^ dayN at_ : Nat) : Int) % 2 = 1) && decide (p.fr ≤ minN at_) && decide (minN at_ < p.to)
def idxP (q : Pr → Bool) (l : List Pr) : Int := match l.findIdx? q with | some i => i | none => -1
def spanB (fr to : Int) : Bool := decide (0 ≤ fr) && decide (fr ≤ to) && decide (to ≤ 281474976710656)
def secsF (fr to : Int) : Int := if spanB fr to then (to - fr + 999) / 1000 else 0
def piecesF (r : Rt) (free s : Int) : Int := if s - free ≤ 0 then 0 else if s - free ≤ r.fi then 1 else 1 + (s - free - r.fi + r.st - 1) / r.st
end Go.Ab.Tryd.S
