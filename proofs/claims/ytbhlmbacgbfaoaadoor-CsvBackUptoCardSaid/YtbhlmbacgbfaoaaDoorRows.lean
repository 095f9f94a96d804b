/-
  NARROWER THAN 'FOR EVERY INPUT', by the rows' own cells (each row's printed sentence says how): UtfTells: laid · UtfEach: laid · UtfParts: laid · UtfLines: laid · PrepTells: laid · PrepStays: laid · PrepEach: laid · PrepWays: laid · PrepGone: laid · CsvBack: laid · CsvBounds: laid · CsvFields: laid.
  DERIVED. THE GIVEN ROWS OF THIS SEAT. 12 by the template 'for every input the law returns true; each argument reads behind the call as it read before'; 0 by the template 'total and deterministic' (their statements: YtbhlmbacgbfaoaaDoorTotals.lean).
  GIVEN WITH THE SEED: the statements are not yours to turn. If you find one false, say at which input.
  Laid BY PROGRAM, IN A SANDBOX (cutbox-rows.mjs): the forced cells as the released guide's own fill.sh prints them over the translation 875051a5148bfd03… (all of the seat's roots in one cut). By AI agents, Wed Nov 11 2026. No macro, syntax, notation, axiom, sorry.
-/
import Derived.Test.YtbhlmbacgbfaoaaDoorChecked
import GoSem.PinnedTables
import GoSem.Claim
import GoSem.ClaimJoined
import GoSem.ClaimMapViews
import Derived.JoinedTies
import Derived.KernelRfl
namespace Go.Proofs.YtbhlmbacgbfaoaaDoor
/- THE CELL 'sum', in the pinned program and in every row, IS THE sha256 OF THE DUMP (.gsa) THAT YtbhlmbacgbfaoaaDoorProg.lean LOADS. Nothing in Lean hashes anything: it is a label: what it is worth is what the hold of that sum in a sandbox is worth. -/
noncomputable def Tryd.pinned : Pinned := { name := "ytbhlmbacgbfaoaadoor", sum := "875051a5148bfd03a57628c5fc8636056b08a6837ae208f1b5c487112de54f15", checked := Tryd.checked }
namespace Rows
def none {H : Type} : Left H := { results := [], args := [] }

/- WHAT THE LISTED PACKAGE-LEVEL VARIABLES READ AS WHEN THE CALL BEGINS. Each datum BY PROGRAM (the guide's laid-datum.mjs) off the statement by which the dump's own 'gosem.cut.vars' lays the variable. In a bare row this is a premise. The card (YtbhlmbacgbfaoaaDoorCards.lean) ties it to the program's text. -/
def laid_unicode_utf8_acceptRanges {H : Type} : DataW H := .agg [.agg [.lit (.int .u8 128), .lit (.int .u8 191)], .agg [.lit (.int .u8 160), .lit (.int .u8 191)], .agg [.lit (.int .u8 128), .lit (.int .u8 159)], .agg [.lit (.int .u8 144), .lit (.int .u8 191)], .agg [.lit (.int .u8 128), .lit (.int .u8 143)], .agg [.lit (.int .u8 0), .lit (.int .u8 0)], .agg [.lit (.int .u8 0), .lit (.int .u8 0)], .agg [.lit (.int .u8 0), .lit (.int .u8 0)], .agg [.lit (.int .u8 0), .lit (.int .u8 0)], .agg [.lit (.int .u8 0), .lit (.int .u8 0)], .agg [.lit (.int .u8 0), .lit (.int .u8 0)], .agg [.lit (.int .u8 0), .lit (.int .u8 0)], .agg [.lit (.int .u8 0), .lit (.int .u8 0)], .agg [.lit (.int .u8 0), .lit (.int .u8 0)], .agg [.lit (.int .u8 0), .lit (.int .u8 0)], .agg [.lit (.int .u8 0), .lit (.int .u8 0)]]
/-- One of Go's own tables, pinned by name: the form's constant. -/
def laid_unicode_utf8_first : DataW Unit := Go.Pinned.utf8First

/-- 'cardexlaw01.UtfTells': WHATEVER THE INPUT: true; the input reads as it did. -/
def utfTellsSpec : ChangeSpec := { name := "utfTells", fn := fun _ => fun
  | [d1, d2] => { results := [.lit (.bool true)], args := [d1, d2] }
  | _ => none }
def utfTellsRow : OpenClaim := { program := "ytbhlmbacgbfaoaadoor", sum := "875051a5148bfd03a57628c5fc8636056b08a6837ae208f1b5c487112de54f15", func := "cardex/cardexlaw01.UtfTells", spec := "utfTells", unfollowed := true, recurses := true, named := ["unicode/utf8.first", "unicode/utf8.acceptRanges"], apart := false, laid := [("unicode/utf8.acceptRanges", laid_unicode_utf8_acceptRanges), ("unicode/utf8.first", laid_unicode_utf8_first)] }
def UtfTellsSaid : Prop := utfTellsRow.holds Tryd.pinned (OpenSpec.ofChange utfTellsSpec)

/-- ITS FALSE NEIGHBOUR: 'it returns false'. Refute it at one input. -/
def utfTellsWrong : ChangeSpec := { name := "utfTells", fn := fun _ => fun
  | [d1, d2] => { results := [.lit (.bool false)], args := [d1, d2] }
  | _ => none }
def UtfTellsWrongFalsely : Prop := utfTellsRow.holds Tryd.pinned (OpenSpec.ofChange utfTellsWrong)

/-- 'cardexlaw01.UtfEach': WHATEVER THE INPUT: true; the input reads as it did. -/
def utfEachSpec : ChangeSpec := { name := "utfEach", fn := fun _ => fun
  | [d1, d2] => { results := [.lit (.bool true)], args := [d1, d2] }
  | _ => none }
def utfEachRow : OpenClaim := { program := "ytbhlmbacgbfaoaadoor", sum := "875051a5148bfd03a57628c5fc8636056b08a6837ae208f1b5c487112de54f15", func := "cardex/cardexlaw01.UtfEach", spec := "utfEach", unfollowed := true, recurses := true, named := ["unicode/utf8.first", "unicode/utf8.acceptRanges"], apart := false, laid := [("unicode/utf8.acceptRanges", laid_unicode_utf8_acceptRanges), ("unicode/utf8.first", laid_unicode_utf8_first)] }
def UtfEachSaid : Prop := utfEachRow.holds Tryd.pinned (OpenSpec.ofChange utfEachSpec)

/-- ITS FALSE NEIGHBOUR: 'it returns false'. Refute it at one input. -/
def utfEachWrong : ChangeSpec := { name := "utfEach", fn := fun _ => fun
  | [d1, d2] => { results := [.lit (.bool false)], args := [d1, d2] }
  | _ => none }
def UtfEachWrongFalsely : Prop := utfEachRow.holds Tryd.pinned (OpenSpec.ofChange utfEachWrong)

/-- 'cardexlaw01.UtfParts': WHATEVER THE INPUT: true; the input reads as it did. -/
def utfPartsSpec : ChangeSpec := { name := "utfParts", fn := fun _ => fun
  | [d1, d2, d3] => { results := [.lit (.bool true)], args := [d1, d2, d3] }
  | _ => none }
def utfPartsRow : OpenClaim := { program := "ytbhlmbacgbfaoaadoor", sum := "875051a5148bfd03a57628c5fc8636056b08a6837ae208f1b5c487112de54f15", func := "cardex/cardexlaw01.UtfParts", spec := "utfParts", unfollowed := true, recurses := true, named := ["unicode/utf8.first", "unicode/utf8.acceptRanges"], apart := false, laid := [("unicode/utf8.acceptRanges", laid_unicode_utf8_acceptRanges), ("unicode/utf8.first", laid_unicode_utf8_first)] }
def UtfPartsSaid : Prop := utfPartsRow.holds Tryd.pinned (OpenSpec.ofChange utfPartsSpec)

/-- ITS FALSE NEIGHBOUR: 'it returns false'. Refute it at one input. -/
def utfPartsWrong : ChangeSpec := { name := "utfParts", fn := fun _ => fun
  | [d1, d2, d3] => { results := [.lit (.bool false)], args := [d1, d2, d3] }
  | _ => none }
def UtfPartsWrongFalsely : Prop := utfPartsRow.holds Tryd.pinned (OpenSpec.ofChange utfPartsWrong)

/-- 'cardexlaw01.UtfLines': WHATEVER THE INPUT: true; the input reads as it did. -/
def utfLinesSpec : ChangeSpec := { name := "utfLines", fn := fun _ => fun
  | [d1, d2, d3, d4] => { results := [.lit (.bool true)], args := [d1, d2, d3, d4] }
  | _ => none }
def utfLinesRow : OpenClaim := { program := "ytbhlmbacgbfaoaadoor", sum := "875051a5148bfd03a57628c5fc8636056b08a6837ae208f1b5c487112de54f15", func := "cardex/cardexlaw01.UtfLines", spec := "utfLines", unfollowed := true, recurses := true, named := ["unicode/utf8.first", "unicode/utf8.acceptRanges"], apart := false, laid := [("unicode/utf8.acceptRanges", laid_unicode_utf8_acceptRanges), ("unicode/utf8.first", laid_unicode_utf8_first)] }
def UtfLinesSaid : Prop := utfLinesRow.holds Tryd.pinned (OpenSpec.ofChange utfLinesSpec)

/-- ITS FALSE NEIGHBOUR: 'it returns false'. Refute it at one input. -/
def utfLinesWrong : ChangeSpec := { name := "utfLines", fn := fun _ => fun
  | [d1, d2, d3, d4] => { results := [.lit (.bool false)], args := [d1, d2, d3, d4] }
  | _ => none }
def UtfLinesWrongFalsely : Prop := utfLinesRow.holds Tryd.pinned (OpenSpec.ofChange utfLinesWrong)

/-- 'cardexlaw06.PrepTells': WHATEVER THE INPUT: true; the input reads as it did. -/
def prepTellsSpec : ChangeSpec := { name := "prepTells", fn := fun _ => fun
  | [d] => { results := [.lit (.bool true)], args := [d] }
  | _ => none }
def prepTellsRow : OpenClaim := { program := "ytbhlmbacgbfaoaadoor", sum := "875051a5148bfd03a57628c5fc8636056b08a6837ae208f1b5c487112de54f15", func := "cardex/cardexlaw06.PrepTells", spec := "prepTells", unfollowed := true, recurses := true, named := ["unicode/utf8.first", "unicode/utf8.acceptRanges"], apart := false, laid := [("unicode/utf8.acceptRanges", laid_unicode_utf8_acceptRanges), ("unicode/utf8.first", laid_unicode_utf8_first)] }
def PrepTellsSaid : Prop := prepTellsRow.holds Tryd.pinned (OpenSpec.ofChange prepTellsSpec)

/-- ITS FALSE NEIGHBOUR: 'it returns false'. Refute it at one input. -/
def prepTellsWrong : ChangeSpec := { name := "prepTells", fn := fun _ => fun
  | [d] => { results := [.lit (.bool false)], args := [d] }
  | _ => none }
def PrepTellsWrongFalsely : Prop := prepTellsRow.holds Tryd.pinned (OpenSpec.ofChange prepTellsWrong)

/-- 'cardexlaw06.PrepStays': WHATEVER THE INPUT: true; the input reads as it did. -/
def prepStaysSpec : ChangeSpec := { name := "prepStays", fn := fun _ => fun
  | [d] => { results := [.lit (.bool true)], args := [d] }
  | _ => none }
def prepStaysRow : OpenClaim := { program := "ytbhlmbacgbfaoaadoor", sum := "875051a5148bfd03a57628c5fc8636056b08a6837ae208f1b5c487112de54f15", func := "cardex/cardexlaw06.PrepStays", spec := "prepStays", unfollowed := true, recurses := true, named := ["unicode/utf8.first", "unicode/utf8.acceptRanges"], apart := false, laid := [("unicode/utf8.acceptRanges", laid_unicode_utf8_acceptRanges), ("unicode/utf8.first", laid_unicode_utf8_first)] }
def PrepStaysSaid : Prop := prepStaysRow.holds Tryd.pinned (OpenSpec.ofChange prepStaysSpec)

/-- ITS FALSE NEIGHBOUR: 'it returns false'. Refute it at one input. -/
def prepStaysWrong : ChangeSpec := { name := "prepStays", fn := fun _ => fun
  | [d] => { results := [.lit (.bool false)], args := [d] }
  | _ => none }
def PrepStaysWrongFalsely : Prop := prepStaysRow.holds Tryd.pinned (OpenSpec.ofChange prepStaysWrong)

/-- 'cardexlaw06.PrepEach': WHATEVER THE INPUT: true; the input reads as it did. -/
def prepEachSpec : ChangeSpec := { name := "prepEach", fn := fun _ => fun
  | [d] => { results := [.lit (.bool true)], args := [d] }
  | _ => none }
def prepEachRow : OpenClaim := { program := "ytbhlmbacgbfaoaadoor", sum := "875051a5148bfd03a57628c5fc8636056b08a6837ae208f1b5c487112de54f15", func := "cardex/cardexlaw06.PrepEach", spec := "prepEach", unfollowed := true, recurses := true, named := ["unicode/utf8.first", "unicode/utf8.acceptRanges"], apart := false, laid := [("unicode/utf8.acceptRanges", laid_unicode_utf8_acceptRanges), ("unicode/utf8.first", laid_unicode_utf8_first)] }
def PrepEachSaid : Prop := prepEachRow.holds Tryd.pinned (OpenSpec.ofChange prepEachSpec)

/-- ITS FALSE NEIGHBOUR: 'it returns false'. Refute it at one input. -/
def prepEachWrong : ChangeSpec := { name := "prepEach", fn := fun _ => fun
  | [d] => { results := [.lit (.bool false)], args := [d] }
  | _ => none }
def PrepEachWrongFalsely : Prop := prepEachRow.holds Tryd.pinned (OpenSpec.ofChange prepEachWrong)

/-- 'cardexlaw06.PrepWays': WHATEVER THE INPUT: true; the input reads as it did. -/
def prepWaysSpec : ChangeSpec := { name := "prepWays", fn := fun _ => fun
  | [d1, d2, d3] => { results := [.lit (.bool true)], args := [d1, d2, d3] }
  | _ => none }
def prepWaysRow : OpenClaim := { program := "ytbhlmbacgbfaoaadoor", sum := "875051a5148bfd03a57628c5fc8636056b08a6837ae208f1b5c487112de54f15", func := "cardex/cardexlaw06.PrepWays", spec := "prepWays", unfollowed := true, recurses := true, named := ["unicode/utf8.first", "unicode/utf8.acceptRanges"], apart := false, laid := [("unicode/utf8.acceptRanges", laid_unicode_utf8_acceptRanges), ("unicode/utf8.first", laid_unicode_utf8_first)] }
def PrepWaysSaid : Prop := prepWaysRow.holds Tryd.pinned (OpenSpec.ofChange prepWaysSpec)

/-- ITS FALSE NEIGHBOUR: 'it returns false'. Refute it at one input. -/
def prepWaysWrong : ChangeSpec := { name := "prepWays", fn := fun _ => fun
  | [d1, d2, d3] => { results := [.lit (.bool false)], args := [d1, d2, d3] }
  | _ => none }
def PrepWaysWrongFalsely : Prop := prepWaysRow.holds Tryd.pinned (OpenSpec.ofChange prepWaysWrong)

/-- 'cardexlaw06.PrepGone': WHATEVER THE INPUT: true; the input reads as it did. -/
def prepGoneSpec : ChangeSpec := { name := "prepGone", fn := fun _ => fun
  | [d1, d2, d3] => { results := [.lit (.bool true)], args := [d1, d2, d3] }
  | _ => none }
def prepGoneRow : OpenClaim := { program := "ytbhlmbacgbfaoaadoor", sum := "875051a5148bfd03a57628c5fc8636056b08a6837ae208f1b5c487112de54f15", func := "cardex/cardexlaw06.PrepGone", spec := "prepGone", unfollowed := true, recurses := true, named := ["unicode/utf8.first", "unicode/utf8.acceptRanges"], apart := false, laid := [("unicode/utf8.acceptRanges", laid_unicode_utf8_acceptRanges), ("unicode/utf8.first", laid_unicode_utf8_first)] }
def PrepGoneSaid : Prop := prepGoneRow.holds Tryd.pinned (OpenSpec.ofChange prepGoneSpec)

/-- ITS FALSE NEIGHBOUR: 'it returns false'. Refute it at one input. -/
def prepGoneWrong : ChangeSpec := { name := "prepGone", fn := fun _ => fun
  | [d1, d2, d3] => { results := [.lit (.bool false)], args := [d1, d2, d3] }
  | _ => none }
def PrepGoneWrongFalsely : Prop := prepGoneRow.holds Tryd.pinned (OpenSpec.ofChange prepGoneWrong)

/-- 'cardexlaw04.CsvBack': WHATEVER THE INPUT: true; the input reads as it did. -/
def csvBackSpec : ChangeSpec := { name := "csvBack", fn := fun _ => fun
  | [d1, d2] => { results := [.lit (.bool true)], args := [d1, d2] }
  | _ => none }
def csvBackRow : OpenClaim := { program := "ytbhlmbacgbfaoaadoor", sum := "875051a5148bfd03a57628c5fc8636056b08a6837ae208f1b5c487112de54f15", func := "cardex/cardexlaw04.CsvBack", spec := "csvBack", inPlace := ["internal/bytealg.IndexByteString", "internal/bytealg.IndexString", "internal/abi.NoEscape", "internal/bytealg.CountString", "internal/bytealg.MakeNoZero"], unfollowed := true, recurses := true, named := ["unicode/utf8.first", "unicode/utf8.acceptRanges", "internal/bytealg.MaxLen"], apart := false, laid := [("unicode/utf8.acceptRanges", laid_unicode_utf8_acceptRanges), ("unicode/utf8.first", laid_unicode_utf8_first)] }
def CsvBackSaid : Prop := csvBackRow.holds Tryd.pinned (OpenSpec.ofChange csvBackSpec)

/-- ITS FALSE NEIGHBOUR: 'it returns false'. Refute it at one input. -/
def csvBackWrong : ChangeSpec := { name := "csvBack", fn := fun _ => fun
  | [d1, d2] => { results := [.lit (.bool false)], args := [d1, d2] }
  | _ => none }
def CsvBackWrongFalsely : Prop := csvBackRow.holds Tryd.pinned (OpenSpec.ofChange csvBackWrong)

/-- 'cardexlaw04.CsvBounds': WHATEVER THE INPUT: true; the input reads as it did. -/
def csvBoundsSpec : ChangeSpec := { name := "csvBounds", fn := fun _ => fun
  | [d1, d2, d3] => { results := [.lit (.bool true)], args := [d1, d2, d3] }
  | _ => none }
def csvBoundsRow : OpenClaim := { program := "ytbhlmbacgbfaoaadoor", sum := "875051a5148bfd03a57628c5fc8636056b08a6837ae208f1b5c487112de54f15", func := "cardex/cardexlaw04.CsvBounds", spec := "csvBounds", inPlace := ["internal/bytealg.IndexByteString", "internal/bytealg.IndexString", "internal/abi.NoEscape", "internal/bytealg.CountString", "internal/bytealg.MakeNoZero"], unfollowed := true, recurses := true, named := ["unicode/utf8.first", "unicode/utf8.acceptRanges", "internal/bytealg.MaxLen"], apart := false, laid := [("unicode/utf8.acceptRanges", laid_unicode_utf8_acceptRanges), ("unicode/utf8.first", laid_unicode_utf8_first)] }
def CsvBoundsSaid : Prop := csvBoundsRow.holds Tryd.pinned (OpenSpec.ofChange csvBoundsSpec)

/-- ITS FALSE NEIGHBOUR: 'it returns false'. Refute it at one input. -/
def csvBoundsWrong : ChangeSpec := { name := "csvBounds", fn := fun _ => fun
  | [d1, d2, d3] => { results := [.lit (.bool false)], args := [d1, d2, d3] }
  | _ => none }
def CsvBoundsWrongFalsely : Prop := csvBoundsRow.holds Tryd.pinned (OpenSpec.ofChange csvBoundsWrong)

/-- 'cardexlaw04.CsvFields': WHATEVER THE INPUT: true; the input reads as it did. -/
def csvFieldsSpec : ChangeSpec := { name := "csvFields", fn := fun _ => fun
  | [d1, d2] => { results := [.lit (.bool true)], args := [d1, d2] }
  | _ => none }
def csvFieldsRow : OpenClaim := { program := "ytbhlmbacgbfaoaadoor", sum := "875051a5148bfd03a57628c5fc8636056b08a6837ae208f1b5c487112de54f15", func := "cardex/cardexlaw04.CsvFields", spec := "csvFields", inPlace := ["internal/bytealg.IndexByteString", "internal/bytealg.IndexString", "internal/abi.NoEscape", "internal/bytealg.CountString", "internal/bytealg.MakeNoZero"], unfollowed := true, recurses := true, named := ["unicode/utf8.first", "unicode/utf8.acceptRanges", "internal/bytealg.MaxLen"], apart := false, laid := [("unicode/utf8.acceptRanges", laid_unicode_utf8_acceptRanges), ("unicode/utf8.first", laid_unicode_utf8_first)] }
def CsvFieldsSaid : Prop := csvFieldsRow.holds Tryd.pinned (OpenSpec.ofChange csvFieldsSpec)

/-- ITS FALSE NEIGHBOUR: 'it returns false'. Refute it at one input. -/
def csvFieldsWrong : ChangeSpec := { name := "csvFields", fn := fun _ => fun
  | [d1, d2] => { results := [.lit (.bool false)], args := [d1, d2] }
  | _ => none }
def CsvFieldsWrongFalsely : Prop := csvFieldsRow.holds Tryd.pinned (OpenSpec.ofChange csvFieldsWrong)

/- THE SECOND FORM. 'bulk': how many values and letters a reading holds, each counted each time it is reached (what is shared counts as often as it is met; a slice's spare places count too). A statement '..UptoSaid' is the law's where the arguments, and the package variables that the reading takes, are together of bulk at most 1048576: NARROWER than '..Said'. Prove '..Said' where nothing that the law and all that it calls make is longer than what came in: it says more and counts as full. Else prove '..UptoSaid'. A law counts once. -/
mutual
def uptoBulk {H : Type} : DataW H → Nat
  | .lit (.string bytes) => bytes.length + 1
  | .lit _ => 1
  | .nil => 1
  | .ptr d => uptoBulk d + 1
  | .slice elems spare => uptoBulkAll elems + uptoBulkAll spare + 1
  | .agg parts => uptoBulkAll parts + 1
  | .iface _ d => uptoBulk d + 1
  | .map entries => uptoBulkEntries entries + 1
  | .held _ => 1
def uptoBulkAll {H : Type} : List (DataW H) → Nat
  | [] => 0
  | d :: r => uptoBulk d + uptoBulkAll r
def uptoBulkEntries {H : Type} : List (Lit × DataW H) → Nat
  | [] => 0
  | x :: r => uptoBulkEntry x + uptoBulkEntries r
def uptoBulkEntry {H : Type} : Lit × DataW H → Nat
  | (.string bytes, d) => bytes.length + uptoBulk d + 1
  | (_, d) => uptoBulk d + 1
 end
def uptoSmall : (H : Type) → List (DataW H) → Bool := fun _ ds => decide (uptoBulkAll ds ≤ 1048576)
def OpenSpec.upto (s : _root_.Go.ChangeSpec) : _root_.Go.OpenSpec := { _root_.Go.OpenSpec.ofChange s with cond := some uptoSmall }

/-- 'cardexlaw01.UtfTells', WHERE WHAT IT READS IS OF BULK AT MOST 1048576: true; the input reads as it did. -/
def utfTellsUptoRow : OpenClaim := { program := "ytbhlmbacgbfaoaadoor", sum := "875051a5148bfd03a57628c5fc8636056b08a6837ae208f1b5c487112de54f15", func := "cardex/cardexlaw01.UtfTells", spec := "utfTells", unfollowed := true, recurses := true, named := ["unicode/utf8.first", "unicode/utf8.acceptRanges"], apart := false, laid := [("unicode/utf8.acceptRanges", laid_unicode_utf8_acceptRanges), ("unicode/utf8.first", laid_unicode_utf8_first)], narrowed := true }
def UtfTellsUptoSaid : Prop := utfTellsUptoRow.holds Tryd.pinned (OpenSpec.upto utfTellsSpec)

/-- 'cardexlaw01.UtfEach', WHERE WHAT IT READS IS OF BULK AT MOST 1048576: true; the input reads as it did. -/
def utfEachUptoRow : OpenClaim := { program := "ytbhlmbacgbfaoaadoor", sum := "875051a5148bfd03a57628c5fc8636056b08a6837ae208f1b5c487112de54f15", func := "cardex/cardexlaw01.UtfEach", spec := "utfEach", unfollowed := true, recurses := true, named := ["unicode/utf8.first", "unicode/utf8.acceptRanges"], apart := false, laid := [("unicode/utf8.acceptRanges", laid_unicode_utf8_acceptRanges), ("unicode/utf8.first", laid_unicode_utf8_first)], narrowed := true }
def UtfEachUptoSaid : Prop := utfEachUptoRow.holds Tryd.pinned (OpenSpec.upto utfEachSpec)

/-- 'cardexlaw01.UtfParts', WHERE WHAT IT READS IS OF BULK AT MOST 1048576: true; the input reads as it did. -/
def utfPartsUptoRow : OpenClaim := { program := "ytbhlmbacgbfaoaadoor", sum := "875051a5148bfd03a57628c5fc8636056b08a6837ae208f1b5c487112de54f15", func := "cardex/cardexlaw01.UtfParts", spec := "utfParts", unfollowed := true, recurses := true, named := ["unicode/utf8.first", "unicode/utf8.acceptRanges"], apart := false, laid := [("unicode/utf8.acceptRanges", laid_unicode_utf8_acceptRanges), ("unicode/utf8.first", laid_unicode_utf8_first)], narrowed := true }
def UtfPartsUptoSaid : Prop := utfPartsUptoRow.holds Tryd.pinned (OpenSpec.upto utfPartsSpec)

/-- 'cardexlaw01.UtfLines', WHERE WHAT IT READS IS OF BULK AT MOST 1048576: true; the input reads as it did. -/
def utfLinesUptoRow : OpenClaim := { program := "ytbhlmbacgbfaoaadoor", sum := "875051a5148bfd03a57628c5fc8636056b08a6837ae208f1b5c487112de54f15", func := "cardex/cardexlaw01.UtfLines", spec := "utfLines", unfollowed := true, recurses := true, named := ["unicode/utf8.first", "unicode/utf8.acceptRanges"], apart := false, laid := [("unicode/utf8.acceptRanges", laid_unicode_utf8_acceptRanges), ("unicode/utf8.first", laid_unicode_utf8_first)], narrowed := true }
def UtfLinesUptoSaid : Prop := utfLinesUptoRow.holds Tryd.pinned (OpenSpec.upto utfLinesSpec)

/-- 'cardexlaw06.PrepTells', WHERE WHAT IT READS IS OF BULK AT MOST 1048576: true; the input reads as it did. -/
def prepTellsUptoRow : OpenClaim := { program := "ytbhlmbacgbfaoaadoor", sum := "875051a5148bfd03a57628c5fc8636056b08a6837ae208f1b5c487112de54f15", func := "cardex/cardexlaw06.PrepTells", spec := "prepTells", unfollowed := true, recurses := true, named := ["unicode/utf8.first", "unicode/utf8.acceptRanges"], apart := false, laid := [("unicode/utf8.acceptRanges", laid_unicode_utf8_acceptRanges), ("unicode/utf8.first", laid_unicode_utf8_first)], narrowed := true }
def PrepTellsUptoSaid : Prop := prepTellsUptoRow.holds Tryd.pinned (OpenSpec.upto prepTellsSpec)

/-- 'cardexlaw06.PrepStays', WHERE WHAT IT READS IS OF BULK AT MOST 1048576: true; the input reads as it did. -/
def prepStaysUptoRow : OpenClaim := { program := "ytbhlmbacgbfaoaadoor", sum := "875051a5148bfd03a57628c5fc8636056b08a6837ae208f1b5c487112de54f15", func := "cardex/cardexlaw06.PrepStays", spec := "prepStays", unfollowed := true, recurses := true, named := ["unicode/utf8.first", "unicode/utf8.acceptRanges"], apart := false, laid := [("unicode/utf8.acceptRanges", laid_unicode_utf8_acceptRanges), ("unicode/utf8.first", laid_unicode_utf8_first)], narrowed := true }
def PrepStaysUptoSaid : Prop := prepStaysUptoRow.holds Tryd.pinned (OpenSpec.upto prepStaysSpec)

/-- 'cardexlaw06.PrepEach', WHERE WHAT IT READS IS OF BULK AT MOST 1048576: true; the input reads as it did. -/
def prepEachUptoRow : OpenClaim := { program := "ytbhlmbacgbfaoaadoor", sum := "875051a5148bfd03a57628c5fc8636056b08a6837ae208f1b5c487112de54f15", func := "cardex/cardexlaw06.PrepEach", spec := "prepEach", unfollowed := true, recurses := true, named := ["unicode/utf8.first", "unicode/utf8.acceptRanges"], apart := false, laid := [("unicode/utf8.acceptRanges", laid_unicode_utf8_acceptRanges), ("unicode/utf8.first", laid_unicode_utf8_first)], narrowed := true }
def PrepEachUptoSaid : Prop := prepEachUptoRow.holds Tryd.pinned (OpenSpec.upto prepEachSpec)

/-- 'cardexlaw06.PrepWays', WHERE WHAT IT READS IS OF BULK AT MOST 1048576: true; the input reads as it did. -/
def prepWaysUptoRow : OpenClaim := { program := "ytbhlmbacgbfaoaadoor", sum := "875051a5148bfd03a57628c5fc8636056b08a6837ae208f1b5c487112de54f15", func := "cardex/cardexlaw06.PrepWays", spec := "prepWays", unfollowed := true, recurses := true, named := ["unicode/utf8.first", "unicode/utf8.acceptRanges"], apart := false, laid := [("unicode/utf8.acceptRanges", laid_unicode_utf8_acceptRanges), ("unicode/utf8.first", laid_unicode_utf8_first)], narrowed := true }
def PrepWaysUptoSaid : Prop := prepWaysUptoRow.holds Tryd.pinned (OpenSpec.upto prepWaysSpec)

/-- 'cardexlaw06.PrepGone', WHERE WHAT IT READS IS OF BULK AT MOST 1048576: true; the input reads as it did. -/
def prepGoneUptoRow : OpenClaim := { program := "ytbhlmbacgbfaoaadoor", sum := "875051a5148bfd03a57628c5fc8636056b08a6837ae208f1b5c487112de54f15", func := "cardex/cardexlaw06.PrepGone", spec := "prepGone", unfollowed := true, recurses := true, named := ["unicode/utf8.first", "unicode/utf8.acceptRanges"], apart := false, laid := [("unicode/utf8.acceptRanges", laid_unicode_utf8_acceptRanges), ("unicode/utf8.first", laid_unicode_utf8_first)], narrowed := true }
def PrepGoneUptoSaid : Prop := prepGoneUptoRow.holds Tryd.pinned (OpenSpec.upto prepGoneSpec)

/-- 'cardexlaw04.CsvBack', WHERE WHAT IT READS IS OF BULK AT MOST 1048576: true; the input reads as it did. -/
def csvBackUptoRow : OpenClaim := { program := "ytbhlmbacgbfaoaadoor", sum := "875051a5148bfd03a57628c5fc8636056b08a6837ae208f1b5c487112de54f15", func := "cardex/cardexlaw04.CsvBack", spec := "csvBack", inPlace := ["internal/bytealg.IndexByteString", "internal/bytealg.IndexString", "internal/abi.NoEscape", "internal/bytealg.CountString", "internal/bytealg.MakeNoZero"], unfollowed := true, recurses := true, named := ["unicode/utf8.first", "unicode/utf8.acceptRanges", "internal/bytealg.MaxLen"], apart := false, laid := [("unicode/utf8.acceptRanges", laid_unicode_utf8_acceptRanges), ("unicode/utf8.first", laid_unicode_utf8_first)], narrowed := true }
def CsvBackUptoSaid : Prop := csvBackUptoRow.holds Tryd.pinned (OpenSpec.upto csvBackSpec)

/-- 'cardexlaw04.CsvBounds', WHERE WHAT IT READS IS OF BULK AT MOST 1048576: true; the input reads as it did. -/
def csvBoundsUptoRow : OpenClaim := { program := "ytbhlmbacgbfaoaadoor", sum := "875051a5148bfd03a57628c5fc8636056b08a6837ae208f1b5c487112de54f15", func := "cardex/cardexlaw04.CsvBounds", spec := "csvBounds", inPlace := ["internal/bytealg.IndexByteString", "internal/bytealg.IndexString", "internal/abi.NoEscape", "internal/bytealg.CountString", "internal/bytealg.MakeNoZero"], unfollowed := true, recurses := true, named := ["unicode/utf8.first", "unicode/utf8.acceptRanges", "internal/bytealg.MaxLen"], apart := false, laid := [("unicode/utf8.acceptRanges", laid_unicode_utf8_acceptRanges), ("unicode/utf8.first", laid_unicode_utf8_first)], narrowed := true }
def CsvBoundsUptoSaid : Prop := csvBoundsUptoRow.holds Tryd.pinned (OpenSpec.upto csvBoundsSpec)

/-- 'cardexlaw04.CsvFields', WHERE WHAT IT READS IS OF BULK AT MOST 1048576: true; the input reads as it did. -/
def csvFieldsUptoRow : OpenClaim := { program := "ytbhlmbacgbfaoaadoor", sum := "875051a5148bfd03a57628c5fc8636056b08a6837ae208f1b5c487112de54f15", func := "cardex/cardexlaw04.CsvFields", spec := "csvFields", inPlace := ["internal/bytealg.IndexByteString", "internal/bytealg.IndexString", "internal/abi.NoEscape", "internal/bytealg.CountString", "internal/bytealg.MakeNoZero"], unfollowed := true, recurses := true, named := ["unicode/utf8.first", "unicode/utf8.acceptRanges", "internal/bytealg.MaxLen"], apart := false, laid := [("unicode/utf8.acceptRanges", laid_unicode_utf8_acceptRanges), ("unicode/utf8.first", laid_unicode_utf8_first)], narrowed := true }
def CsvFieldsUptoSaid : Prop := csvFieldsUptoRow.holds Tryd.pinned (OpenSpec.upto csvFieldsSpec)

end Rows
end Go.Proofs.YtbhlmbacgbfaoaaDoor
