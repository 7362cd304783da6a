/-
  NARROWER THAN 'FOR EVERY INPUT', by the rows' own cells (each row's printed sentence says how): RatingCosts: laid · RatingGrows: laid · RatingFlat: laid · RatingTimes: laid · RatingPieces: laid · RatingKnown: laid · RatingFinds: laid.
  DERIVED. THE GIVEN ROWS OF THIS SEAT. 7 by the template 'for every input the law returns true; each argument reads behind the call as it read before'; 0 by the template 'total and deterministic' (their statements: YtjckmpmnomkmlaaDoorTotals.lean).
  GIVEN WITH THE SEED: the statements are not yours to turn. If you find one false, say at which input.
  Laid BY PROGRAM, IN A SANDBOX (cutbox-rows.mjs): the forced cells as the released guide's own fill.sh prints them over the translation 44804d32b844d64c… (all of the seat's roots in one cut). By AI agents, Wed Nov 11 2026. No macro, syntax, notation, axiom, sorry.
-/
import Derived.Test.YtjckmpmnomkmlaaDoorChecked
import GoSem.PinnedTables
import GoSem.Claim
import GoSem.ClaimJoined
import GoSem.ClaimMapViews
import Derived.JoinedTies
import Derived.KernelRfl
namespace Go.Proofs.YtjckmpmnomkmlaaDoor
/- THE CELL 'sum', in the pinned program and in every row, IS THE sha256 OF THE DUMP (.gsa) THAT YtjckmpmnomkmlaaDoorProg.lean LOADS. Nothing in Lean hashes anything: it is a label: what it is worth is what the hold of that sum in a sandbox is worth. -/
noncomputable def Tryd.pinned : Pinned := { name := "ytjckmpmnomkmlaadoor", sum := "44804d32b844d64c189c518206dcbb55b622f9b77f0533430bc3f87f2fccbd00", checked := Tryd.checked }
namespace Rows
def none {H : Type} : Left H := { results := [], args := [] }

/- WHAT THE LISTED PACKAGE-LEVEL VARIABLES READ AS WHEN THE CALL BEGINS. Each datum BY PROGRAM (the guide's laid-datum.mjs) off the statement by which the dump's own 'gosem.cut.vars' lays the variable. In a bare row this is a premise. The card (YtjckmpmnomkmlaaDoorCards.lean) ties it to the program's text. -/
def laid_unicode_utf8_acceptRanges {H : Type} : DataW H := .agg [.agg [.lit (.int .u8 128), .lit (.int .u8 191)], .agg [.lit (.int .u8 160), .lit (.int .u8 191)], .agg [.lit (.int .u8 128), .lit (.int .u8 159)], .agg [.lit (.int .u8 144), .lit (.int .u8 191)], .agg [.lit (.int .u8 128), .lit (.int .u8 143)], .agg [.lit (.int .u8 0), .lit (.int .u8 0)], .agg [.lit (.int .u8 0), .lit (.int .u8 0)], .agg [.lit (.int .u8 0), .lit (.int .u8 0)], .agg [.lit (.int .u8 0), .lit (.int .u8 0)], .agg [.lit (.int .u8 0), .lit (.int .u8 0)], .agg [.lit (.int .u8 0), .lit (.int .u8 0)], .agg [.lit (.int .u8 0), .lit (.int .u8 0)], .agg [.lit (.int .u8 0), .lit (.int .u8 0)], .agg [.lit (.int .u8 0), .lit (.int .u8 0)], .agg [.lit (.int .u8 0), .lit (.int .u8 0)], .agg [.lit (.int .u8 0), .lit (.int .u8 0)]]
/-- One of Go's own tables, pinned by name: the form's constant. -/
def laid_unicode_utf8_first : DataW Unit := Go.Pinned.utf8First

/-- 'dialtonelaw37.RatingCosts': WHATEVER THE INPUT: true; the input reads as it did. -/
def ratingCostsSpec : ChangeSpec := { name := "ratingCosts", fn := fun _ => fun
  | [d1, d2, d3, d4] => { results := [.lit (.bool true)], args := [d1, d2, d3, d4] }
  | _ => none }
def ratingCostsRow : OpenClaim := { program := "ytjckmpmnomkmlaadoor", sum := "44804d32b844d64c189c518206dcbb55b622f9b77f0533430bc3f87f2fccbd00", func := "dialtone/dialtonelaw37.RatingCosts", spec := "ratingCosts", inPlace := ["internal/bytealg.IndexByteString", "internal/bytealg.IndexString"], unfollowed := true, recurses := true, named := ["unicode/utf8.first", "unicode/utf8.acceptRanges", "internal/bytealg.MaxLen"], apart := false, laid := [("unicode/utf8.acceptRanges", laid_unicode_utf8_acceptRanges), ("unicode/utf8.first", laid_unicode_utf8_first)] }
def RatingCostsSaid : Prop := ratingCostsRow.holds Tryd.pinned (OpenSpec.ofChange ratingCostsSpec)

/-- ITS FALSE NEIGHBOUR: 'it returns false'. Refute it at one input. -/
def ratingCostsWrong : ChangeSpec := { name := "ratingCosts", fn := fun _ => fun
  | [d1, d2, d3, d4] => { results := [.lit (.bool false)], args := [d1, d2, d3, d4] }
  | _ => none }
def RatingCostsWrongFalsely : Prop := ratingCostsRow.holds Tryd.pinned (OpenSpec.ofChange ratingCostsWrong)

/-- 'dialtonelaw37.RatingGrows': WHATEVER THE INPUT: true; the input reads as it did. -/
def ratingGrowsSpec : ChangeSpec := { name := "ratingGrows", fn := fun _ => fun
  | [d1, d2, d3, d4] => { results := [.lit (.bool true)], args := [d1, d2, d3, d4] }
  | _ => none }
def ratingGrowsRow : OpenClaim := { program := "ytjckmpmnomkmlaadoor", sum := "44804d32b844d64c189c518206dcbb55b622f9b77f0533430bc3f87f2fccbd00", func := "dialtone/dialtonelaw37.RatingGrows", spec := "ratingGrows", inPlace := ["internal/bytealg.IndexByteString", "internal/bytealg.IndexString"], unfollowed := true, recurses := true, named := ["unicode/utf8.first", "unicode/utf8.acceptRanges", "internal/bytealg.MaxLen"], apart := false, laid := [("unicode/utf8.acceptRanges", laid_unicode_utf8_acceptRanges), ("unicode/utf8.first", laid_unicode_utf8_first)] }
def RatingGrowsSaid : Prop := ratingGrowsRow.holds Tryd.pinned (OpenSpec.ofChange ratingGrowsSpec)

/-- ITS FALSE NEIGHBOUR: 'it returns false'. Refute it at one input. -/
def ratingGrowsWrong : ChangeSpec := { name := "ratingGrows", fn := fun _ => fun
  | [d1, d2, d3, d4] => { results := [.lit (.bool false)], args := [d1, d2, d3, d4] }
  | _ => none }
def RatingGrowsWrongFalsely : Prop := ratingGrowsRow.holds Tryd.pinned (OpenSpec.ofChange ratingGrowsWrong)

/-- 'dialtonelaw37.RatingFlat': WHATEVER THE INPUT: true; the input reads as it did. -/
def ratingFlatSpec : ChangeSpec := { name := "ratingFlat", fn := fun _ => fun
  | [d1, d2, d3, d4] => { results := [.lit (.bool true)], args := [d1, d2, d3, d4] }
  | _ => none }
def ratingFlatRow : OpenClaim := { program := "ytjckmpmnomkmlaadoor", sum := "44804d32b844d64c189c518206dcbb55b622f9b77f0533430bc3f87f2fccbd00", func := "dialtone/dialtonelaw37.RatingFlat", spec := "ratingFlat", inPlace := ["internal/bytealg.IndexByteString", "internal/bytealg.IndexString"], unfollowed := true, recurses := true, named := ["unicode/utf8.first", "unicode/utf8.acceptRanges", "internal/bytealg.MaxLen"], apart := false, laid := [("unicode/utf8.acceptRanges", laid_unicode_utf8_acceptRanges), ("unicode/utf8.first", laid_unicode_utf8_first)] }
def RatingFlatSaid : Prop := ratingFlatRow.holds Tryd.pinned (OpenSpec.ofChange ratingFlatSpec)

/-- ITS FALSE NEIGHBOUR: 'it returns false'. Refute it at one input. -/
def ratingFlatWrong : ChangeSpec := { name := "ratingFlat", fn := fun _ => fun
  | [d1, d2, d3, d4] => { results := [.lit (.bool false)], args := [d1, d2, d3, d4] }
  | _ => none }
def RatingFlatWrongFalsely : Prop := ratingFlatRow.holds Tryd.pinned (OpenSpec.ofChange ratingFlatWrong)

/-- 'dialtonelaw37.RatingTimes': WHATEVER THE INPUT: true; the input reads as it did. -/
def ratingTimesSpec : ChangeSpec := { name := "ratingTimes", fn := fun _ => fun
  | [d1, d2, d3, d4] => { results := [.lit (.bool true)], args := [d1, d2, d3, d4] }
  | _ => none }
def ratingTimesRow : OpenClaim := { program := "ytjckmpmnomkmlaadoor", sum := "44804d32b844d64c189c518206dcbb55b622f9b77f0533430bc3f87f2fccbd00", func := "dialtone/dialtonelaw37.RatingTimes", spec := "ratingTimes", inPlace := ["internal/bytealg.IndexByteString", "internal/bytealg.IndexString"], unfollowed := true, recurses := true, named := ["unicode/utf8.first", "unicode/utf8.acceptRanges", "internal/bytealg.MaxLen"], apart := false, laid := [("unicode/utf8.acceptRanges", laid_unicode_utf8_acceptRanges), ("unicode/utf8.first", laid_unicode_utf8_first)] }
def RatingTimesSaid : Prop := ratingTimesRow.holds Tryd.pinned (OpenSpec.ofChange ratingTimesSpec)

/-- ITS FALSE NEIGHBOUR: 'it returns false'. Refute it at one input. -/
def ratingTimesWrong : ChangeSpec := { name := "ratingTimes", fn := fun _ => fun
  | [d1, d2, d3, d4] => { results := [.lit (.bool false)], args := [d1, d2, d3, d4] }
  | _ => none }
def RatingTimesWrongFalsely : Prop := ratingTimesRow.holds Tryd.pinned (OpenSpec.ofChange ratingTimesWrong)

/-- 'dialtonelaw37.RatingPieces': WHATEVER THE INPUT: true; the input reads as it did. -/
def ratingPiecesSpec : ChangeSpec := { name := "ratingPieces", fn := fun _ => fun
  | [d1, d2, d3] => { results := [.lit (.bool true)], args := [d1, d2, d3] }
  | _ => none }
def ratingPiecesRow : OpenClaim := { program := "ytjckmpmnomkmlaadoor", sum := "44804d32b844d64c189c518206dcbb55b622f9b77f0533430bc3f87f2fccbd00", func := "dialtone/dialtonelaw37.RatingPieces", spec := "ratingPieces", inPlace := ["internal/bytealg.IndexByteString", "internal/bytealg.IndexString"], unfollowed := true, recurses := true, named := ["unicode/utf8.first", "unicode/utf8.acceptRanges", "internal/bytealg.MaxLen"], apart := false, laid := [("unicode/utf8.acceptRanges", laid_unicode_utf8_acceptRanges), ("unicode/utf8.first", laid_unicode_utf8_first)] }
def RatingPiecesSaid : Prop := ratingPiecesRow.holds Tryd.pinned (OpenSpec.ofChange ratingPiecesSpec)

/-- ITS FALSE NEIGHBOUR: 'it returns false'. Refute it at one input. -/
def ratingPiecesWrong : ChangeSpec := { name := "ratingPieces", fn := fun _ => fun
  | [d1, d2, d3] => { results := [.lit (.bool false)], args := [d1, d2, d3] }
  | _ => none }
def RatingPiecesWrongFalsely : Prop := ratingPiecesRow.holds Tryd.pinned (OpenSpec.ofChange ratingPiecesWrong)

/-- 'dialtonelaw37.RatingKnown': WHATEVER THE INPUT: true; the input reads as it did. -/
def ratingKnownSpec : ChangeSpec := { name := "ratingKnown", fn := fun _ => fun
  | [] => { results := [.lit (.bool true)], args := [] }
  | _ => none }
def ratingKnownRow : OpenClaim := { program := "ytjckmpmnomkmlaadoor", sum := "44804d32b844d64c189c518206dcbb55b622f9b77f0533430bc3f87f2fccbd00", func := "dialtone/dialtonelaw37.RatingKnown", spec := "ratingKnown", inPlace := ["internal/bytealg.IndexByteString", "internal/bytealg.IndexString"], unfollowed := true, recurses := true, named := ["unicode/utf8.first", "unicode/utf8.acceptRanges", "internal/bytealg.MaxLen"], apart := false, laid := [("unicode/utf8.acceptRanges", laid_unicode_utf8_acceptRanges), ("unicode/utf8.first", laid_unicode_utf8_first)] }
def RatingKnownSaid : Prop := ratingKnownRow.holds Tryd.pinned (OpenSpec.ofChange ratingKnownSpec)

/-- ITS FALSE NEIGHBOUR: 'it returns false'. Refute it at one input. -/
def ratingKnownWrong : ChangeSpec := { name := "ratingKnown", fn := fun _ => fun
  | [] => { results := [.lit (.bool false)], args := [] }
  | _ => none }
def RatingKnownWrongFalsely : Prop := ratingKnownRow.holds Tryd.pinned (OpenSpec.ofChange ratingKnownWrong)

/-- 'dialtonelaw37.RatingFinds': WHATEVER THE INPUT: true; the input reads as it did. -/
def ratingFindsSpec : ChangeSpec := { name := "ratingFinds", fn := fun _ => fun
  | [d1, d2] => { results := [.lit (.bool true)], args := [d1, d2] }
  | _ => none }
def ratingFindsRow : OpenClaim := { program := "ytjckmpmnomkmlaadoor", sum := "44804d32b844d64c189c518206dcbb55b622f9b77f0533430bc3f87f2fccbd00", func := "dialtone/dialtonelaw37.RatingFinds", spec := "ratingFinds", inPlace := ["internal/bytealg.IndexByteString", "internal/bytealg.IndexString"], unfollowed := true, recurses := true, named := ["unicode/utf8.first", "unicode/utf8.acceptRanges", "internal/bytealg.MaxLen"], apart := false, laid := [("unicode/utf8.acceptRanges", laid_unicode_utf8_acceptRanges), ("unicode/utf8.first", laid_unicode_utf8_first)] }
def RatingFindsSaid : Prop := ratingFindsRow.holds Tryd.pinned (OpenSpec.ofChange ratingFindsSpec)

/-- ITS FALSE NEIGHBOUR: 'it returns false'. Refute it at one input. -/
def ratingFindsWrong : ChangeSpec := { name := "ratingFinds", fn := fun _ => fun
  | [d1, d2] => { results := [.lit (.bool false)], args := [d1, d2] }
  | _ => none }
def RatingFindsWrongFalsely : Prop := ratingFindsRow.holds Tryd.pinned (OpenSpec.ofChange ratingFindsWrong)

/- THE SECOND FORM. 'bulk': how many values and letters a reading holds, each counted each time it is reached (what is shared counts as often as it is met; a slice's spare places count too). A statement '..UptoSaid' is the law's where the arguments, and the package variables that the reading takes, are together of bulk at most 1048576: NARROWER than '..Said'. Prove '..Said' where nothing that the law and all that it calls make is longer than what came in: it says more and counts as full. Else prove '..UptoSaid'. A law counts once. -/
mutual
def uptoBulk {H : Type} : DataW H → Nat
  | .lit (.string bytes) => bytes.length + 1
  | .lit _ => 1
  | .nil => 1
  | .ptr d => uptoBulk d + 1
  | .slice elems spare => uptoBulkAll elems + uptoBulkAll spare + 1
  | .agg parts => uptoBulkAll parts + 1
  | .iface _ d => uptoBulk d + 1
  | .map entries => uptoBulkEntries entries + 1
  | .held _ => 1
def uptoBulkAll {H : Type} : List (DataW H) → Nat
  | [] => 0
  | d :: r => uptoBulk d + uptoBulkAll r
def uptoBulkEntries {H : Type} : List (Lit × DataW H) → Nat
  | [] => 0
  | x :: r => uptoBulkEntry x + uptoBulkEntries r
def uptoBulkEntry {H : Type} : Lit × DataW H → Nat
  | (.string bytes, d) => bytes.length + uptoBulk d + 1
  | (_, d) => uptoBulk d + 1
 end
def uptoSmall : (H : Type) → List (DataW H) → Bool := fun _ ds => decide (uptoBulkAll ds ≤ 1048576)
def OpenSpec.upto (s : _root_.Go.ChangeSpec) : _root_.Go.OpenSpec := { _root_.Go.OpenSpec.ofChange s with cond := some uptoSmall }

/-- 'dialtonelaw37.RatingCosts', WHERE WHAT IT READS IS OF BULK AT MOST 1048576: true; the input reads as it did. -/
def ratingCostsUptoRow : OpenClaim := { program := "ytjckmpmnomkmlaadoor", sum := "44804d32b844d64c189c518206dcbb55b622f9b77f0533430bc3f87f2fccbd00", func := "dialtone/dialtonelaw37.RatingCosts", spec := "ratingCosts", inPlace := ["internal/bytealg.IndexByteString", "internal/bytealg.IndexString"], unfollowed := true, recurses := true, named := ["unicode/utf8.first", "unicode/utf8.acceptRanges", "internal/bytealg.MaxLen"], apart := false, laid := [("unicode/utf8.acceptRanges", laid_unicode_utf8_acceptRanges), ("unicode/utf8.first", laid_unicode_utf8_first)], narrowed := true }
def RatingCostsUptoSaid : Prop := ratingCostsUptoRow.holds Tryd.pinned (OpenSpec.upto ratingCostsSpec)

/-- 'dialtonelaw37.RatingGrows', WHERE WHAT IT READS IS OF BULK AT MOST 1048576: true; the input reads as it did. -/
def ratingGrowsUptoRow : OpenClaim := { program := "ytjckmpmnomkmlaadoor", sum := "44804d32b844d64c189c518206dcbb55b622f9b77f0533430bc3f87f2fccbd00", func := "dialtone/dialtonelaw37.RatingGrows", spec := "ratingGrows", inPlace := ["internal/bytealg.IndexByteString", "internal/bytealg.IndexString"], unfollowed := true, recurses := true, named := ["unicode/utf8.first", "unicode/utf8.acceptRanges", "internal/bytealg.MaxLen"], apart := false, laid := [("unicode/utf8.acceptRanges", laid_unicode_utf8_acceptRanges), ("unicode/utf8.first", laid_unicode_utf8_first)], narrowed := true }
def RatingGrowsUptoSaid : Prop := ratingGrowsUptoRow.holds Tryd.pinned (OpenSpec.upto ratingGrowsSpec)

/-- 'dialtonelaw37.RatingFlat', WHERE WHAT IT READS IS OF BULK AT MOST 1048576: true; the input reads as it did. -/
def ratingFlatUptoRow : OpenClaim := { program := "ytjckmpmnomkmlaadoor", sum := "44804d32b844d64c189c518206dcbb55b622f9b77f0533430bc3f87f2fccbd00", func := "dialtone/dialtonelaw37.RatingFlat", spec := "ratingFlat", inPlace := ["internal/bytealg.IndexByteString", "internal/bytealg.IndexString"], unfollowed := true, recurses := true, named := ["unicode/utf8.first", "unicode/utf8.acceptRanges", "internal/bytealg.MaxLen"], apart := false, laid := [("unicode/utf8.acceptRanges", laid_unicode_utf8_acceptRanges), ("unicode/utf8.first", laid_unicode_utf8_first)], narrowed := true }
def RatingFlatUptoSaid : Prop := ratingFlatUptoRow.holds Tryd.pinned (OpenSpec.upto ratingFlatSpec)

/-- 'dialtonelaw37.RatingTimes', WHERE WHAT IT READS IS OF BULK AT MOST 1048576: true; the input reads as it did. -/
def ratingTimesUptoRow : OpenClaim := { program := "ytjckmpmnomkmlaadoor", sum := "44804d32b844d64c189c518206dcbb55b622f9b77f0533430bc3f87f2fccbd00", func := "dialtone/dialtonelaw37.RatingTimes", spec := "ratingTimes", inPlace := ["internal/bytealg.IndexByteString", "internal/bytealg.IndexString"], unfollowed := true, recurses := true, named := ["unicode/utf8.first", "unicode/utf8.acceptRanges", "internal/bytealg.MaxLen"], apart := false, laid := [("unicode/utf8.acceptRanges", laid_unicode_utf8_acceptRanges), ("unicode/utf8.first", laid_unicode_utf8_first)], narrowed := true }
def RatingTimesUptoSaid : Prop := ratingTimesUptoRow.holds Tryd.pinned (OpenSpec.upto ratingTimesSpec)

/-- 'dialtonelaw37.RatingPieces', WHERE WHAT IT READS IS OF BULK AT MOST 1048576: true; the input reads as it did. -/
def ratingPiecesUptoRow : OpenClaim := { program := "ytjckmpmnomkmlaadoor", sum := "44804d32b844d64c189c518206dcbb55b622f9b77f0533430bc3f87f2fccbd00", func := "dialtone/dialtonelaw37.RatingPieces", spec := "ratingPieces", inPlace := ["internal/bytealg.IndexByteString", "internal/bytealg.IndexString"], unfollowed := true, recurses := true, named := ["unicode/utf8.first", "unicode/utf8.acceptRanges", "internal/bytealg.MaxLen"], apart := false, laid := [("unicode/utf8.acceptRanges", laid_unicode_utf8_acceptRanges), ("unicode/utf8.first", laid_unicode_utf8_first)], narrowed := true }
def RatingPiecesUptoSaid : Prop := ratingPiecesUptoRow.holds Tryd.pinned (OpenSpec.upto ratingPiecesSpec)

/-- 'dialtonelaw37.RatingKnown', WHERE WHAT IT READS IS OF BULK AT MOST 1048576: true; the input reads as it did. -/
def ratingKnownUptoRow : OpenClaim := { program := "ytjckmpmnomkmlaadoor", sum := "44804d32b844d64c189c518206dcbb55b622f9b77f0533430bc3f87f2fccbd00", func := "dialtone/dialtonelaw37.RatingKnown", spec := "ratingKnown", inPlace := ["internal/bytealg.IndexByteString", "internal/bytealg.IndexString"], unfollowed := true, recurses := true, named := ["unicode/utf8.first", "unicode/utf8.acceptRanges", "internal/bytealg.MaxLen"], apart := false, laid := [("unicode/utf8.acceptRanges", laid_unicode_utf8_acceptRanges), ("unicode/utf8.first", laid_unicode_utf8_first)], narrowed := true }
def RatingKnownUptoSaid : Prop := ratingKnownUptoRow.holds Tryd.pinned (OpenSpec.upto ratingKnownSpec)

/-- 'dialtonelaw37.RatingFinds', WHERE WHAT IT READS IS OF BULK AT MOST 1048576: true; the input reads as it did. -/
def ratingFindsUptoRow : OpenClaim := { program := "ytjckmpmnomkmlaadoor", sum := "44804d32b844d64c189c518206dcbb55b622f9b77f0533430bc3f87f2fccbd00", func := "dialtone/dialtonelaw37.RatingFinds", spec := "ratingFinds", inPlace := ["internal/bytealg.IndexByteString", "internal/bytealg.IndexString"], unfollowed := true, recurses := true, named := ["unicode/utf8.first", "unicode/utf8.acceptRanges", "internal/bytealg.MaxLen"], apart := false, laid := [("unicode/utf8.acceptRanges", laid_unicode_utf8_acceptRanges), ("unicode/utf8.first", laid_unicode_utf8_first)], narrowed := true }
def RatingFindsUptoSaid : Prop := ratingFindsUptoRow.holds Tryd.pinned (OpenSpec.upto ratingFindsSpec)

end Rows
end Go.Proofs.YtjckmpmnomkmlaaDoor
