/-
  NARROWER THAN 'FOR EVERY INPUT', by the rows' own cells (each row's printed sentence says how): ImagePlaces: laid · ImageScans: laid · ImageDiffs: laid · ImageSlots: laid · ImageOnly: laid.
  DERIVED. THE GIVEN ROWS OF THIS SEAT. 5 by the template 'for every input the law returns true; each argument reads behind the call as it read before'; 0 by the template 'total and deterministic' (their statements: YtfmbpdacdopkgaaGreatDoorTotals.lean).
  GIVEN WITH THE SEED: the statements are not yours to turn. If you find one false, say at which input.
  Laid BY PROGRAM, IN A SANDBOX (cutbox-rows.mjs): the forced cells as the released guide's own fill.sh prints them over the translation 2ba9b4cd3c4ee1f8… (all of the seat's roots in one cut). By AI agents, Wed Nov 11 2026. No macro, syntax, notation, axiom, sorry.
-/
import Derived.Test.YtfmbpdacdopkgaaGreatDoorChecked
import GoSem.Claim
import GoSem.ClaimJoined
import GoSem.ClaimMapViews
import Derived.JoinedTies
import Derived.KernelRfl
namespace Go.Proofs.YtfmbpdacdopkgaaGreatDoor
/- THE CELL 'sum', in the pinned program and in every row, IS THE sha256 OF THE DUMP (.gsa) THAT YtfmbpdacdopkgaaGreatDoorProg.lean LOADS. Nothing in Lean hashes anything: it is a label: what it is worth is what the hold of that sum in a sandbox is worth. -/
noncomputable def Tryz.pinned : Pinned := { name := "ytfmbpdacdopkgaagreatdoor", sum := "2ba9b4cd3c4ee1f82bfdedcfe841bf4d8f32079478ca65566328781e1b26a92e", checked := Tryz.checked }
namespace Rows
def none {H : Type} : Left H := { results := [], args := [] }

/- WHAT THE LISTED PACKAGE-LEVEL VARIABLES READ AS WHEN THE CALL BEGINS. Each datum BY PROGRAM (the guide's laid-datum.mjs) off the statement by which the dump's own 'gosem.cut.vars' lays the variable. In a bare row this is a premise. The card (YtfmbpdacdopkgaaGreatDoorCards.lean) ties it to the program's text. -/
def laid_math_bits_deBruijn32tab {H : Type} : DataW H := .agg [.lit (.int .u8 0), .lit (.int .u8 1), .lit (.int .u8 28), .lit (.int .u8 2), .lit (.int .u8 29), .lit (.int .u8 14), .lit (.int .u8 24), .lit (.int .u8 3), .lit (.int .u8 30), .lit (.int .u8 22), .lit (.int .u8 20), .lit (.int .u8 15), .lit (.int .u8 25), .lit (.int .u8 17), .lit (.int .u8 4), .lit (.int .u8 8), .lit (.int .u8 31), .lit (.int .u8 27), .lit (.int .u8 13), .lit (.int .u8 23), .lit (.int .u8 21), .lit (.int .u8 19), .lit (.int .u8 16), .lit (.int .u8 7), .lit (.int .u8 26), .lit (.int .u8 12), .lit (.int .u8 18), .lit (.int .u8 6), .lit (.int .u8 11), .lit (.int .u8 5), .lit (.int .u8 10), .lit (.int .u8 9)]
def laid_math_bits_deBruijn64tab {H : Type} : DataW H := .agg [.lit (.int .u8 0), .lit (.int .u8 1), .lit (.int .u8 56), .lit (.int .u8 2), .lit (.int .u8 57), .lit (.int .u8 49), .lit (.int .u8 28), .lit (.int .u8 3), .lit (.int .u8 61), .lit (.int .u8 58), .lit (.int .u8 42), .lit (.int .u8 50), .lit (.int .u8 38), .lit (.int .u8 29), .lit (.int .u8 17), .lit (.int .u8 4), .lit (.int .u8 62), .lit (.int .u8 47), .lit (.int .u8 59), .lit (.int .u8 36), .lit (.int .u8 45), .lit (.int .u8 43), .lit (.int .u8 51), .lit (.int .u8 22), .lit (.int .u8 53), .lit (.int .u8 39), .lit (.int .u8 33), .lit (.int .u8 30), .lit (.int .u8 24), .lit (.int .u8 18), .lit (.int .u8 12), .lit (.int .u8 5), .lit (.int .u8 63), .lit (.int .u8 55), .lit (.int .u8 48), .lit (.int .u8 27), .lit (.int .u8 60), .lit (.int .u8 41), .lit (.int .u8 37), .lit (.int .u8 16), .lit (.int .u8 46), .lit (.int .u8 35), .lit (.int .u8 44), .lit (.int .u8 21), .lit (.int .u8 52), .lit (.int .u8 32), .lit (.int .u8 23), .lit (.int .u8 11), .lit (.int .u8 54), .lit (.int .u8 26), .lit (.int .u8 40), .lit (.int .u8 15), .lit (.int .u8 34), .lit (.int .u8 20), .lit (.int .u8 31), .lit (.int .u8 10), .lit (.int .u8 25), .lit (.int .u8 14), .lit (.int .u8 19), .lit (.int .u8 9), .lit (.int .u8 13), .lit (.int .u8 8), .lit (.int .u8 7), .lit (.int .u8 6)]
def laid_internal_strconv_uint64pow10 {H : Type} : DataW H := .agg [.lit (.int .u64 1), .lit (.int .u64 10), .lit (.int .u64 100), .lit (.int .u64 1000), .lit (.int .u64 10000), .lit (.int .u64 100000), .lit (.int .u64 1000000), .lit (.int .u64 10000000), .lit (.int .u64 100000000), .lit (.int .u64 1000000000), .lit (.int .u64 10000000000), .lit (.int .u64 100000000000), .lit (.int .u64 1000000000000), .lit (.int .u64 10000000000000), .lit (.int .u64 100000000000000), .lit (.int .u64 1000000000000000), .lit (.int .u64 10000000000000000), .lit (.int .u64 100000000000000000), .lit (.int .u64 1000000000000000000), .lit (.int .u64 10000000000000000000)]
def laid_strconv_ErrRange {H : Type} : DataW H := .iface "*errors.errorString" (.ptr (.agg [.lit (.string [118, 97, 108, 117, 101, 32, 111, 117, 116, 32, 111, 102, 32, 114, 97, 110, 103, 101])]))
def laid_strconv_ErrSyntax {H : Type} : DataW H := .iface "*errors.errorString" (.ptr (.agg [.lit (.string [105, 110, 118, 97, 108, 105, 100, 32, 115, 121, 110, 116, 97, 120])]))
def laid_winch_ast_shapes {H : Type} : DataW H := .map [(.int .i64 1, .agg [.lit (.bool true), .lit (.int .i64 1), .lit (.int .i64 1), .lit (.bool false), .lit (.bool false)]), (.int .i64 2, .agg [.lit (.bool true), .lit (.int .i64 0), .lit (.int .i64 501), .lit (.bool false), .lit (.bool false)]), (.int .i64 3, .agg [.lit (.bool false), .lit (.int .i64 1), .lit (.int .i64 1), .lit (.bool true), .lit (.bool true)]), (.int .i64 4, .agg [.lit (.bool false), .lit (.int .i64 1), .lit (.int .i64 1), .lit (.bool false), .lit (.bool true)]), (.int .i64 5, .agg [.lit (.bool true), .lit (.int .i64 2), .lit (.int .i64 2), .lit (.bool true), .lit (.bool false)]), (.int .i64 6, .agg [.lit (.bool false), .lit (.int .i64 1), .lit (.int .i64 1), .lit (.bool true), .lit (.bool false)]), (.int .i64 7, .agg [.lit (.bool false), .lit (.int .i64 1), .lit (.int .i64 1), .lit (.bool true), .lit (.bool false)]), (.int .i64 8, .agg [.lit (.bool false), .lit (.int .i64 0), .lit (.int .i64 0), .lit (.bool false), .lit (.bool false)]), (.int .i64 9, .agg [.lit (.bool false), .lit (.int .i64 0), .lit (.int .i64 0), .lit (.bool false), .lit (.bool false)])]
def laid_winch_list_shapes {H : Type} : DataW H := .map [(.int .i64 1, .agg [.lit (.bool false), .lit (.bool true), .lit (.bool true), .lit (.bool false)]), (.int .i64 2, .agg [.lit (.bool true), .lit (.bool false), .lit (.bool true), .lit (.bool false)]), (.int .i64 3, .agg [.lit (.bool true), .lit (.bool false), .lit (.bool false), .lit (.bool false)]), (.int .i64 4, .agg [.lit (.bool true), .lit (.bool false), .lit (.bool false), .lit (.bool false)]), (.int .i64 5, .agg [.lit (.bool false), .lit (.bool true), .lit (.bool true), .lit (.bool false)]), (.int .i64 6, .agg [.lit (.bool false), .lit (.bool false), .lit (.bool false), .lit (.bool false)]), (.int .i64 7, .agg [.lit (.bool false), .lit (.bool false), .lit (.bool false), .lit (.bool false)]), (.int .i64 8, .agg [.lit (.bool true), .lit (.bool false), .lit (.bool false), .lit (.bool true)]), (.int .i64 9, .agg [.lit (.bool true), .lit (.bool false), .lit (.bool false), .lit (.bool true)]), (.int .i64 10, .agg [.lit (.bool false), .lit (.bool false), .lit (.bool false), .lit (.bool true)])]

/-- 'winchlaw19.ImagePlaces': WHATEVER THE INPUT: true; the input reads as it did. -/
def imagePlacesSpec : ChangeSpec := { name := "imagePlaces", fn := fun _ => fun
  | [d1, d2] => { results := [.lit (.bool true)], args := [d1, d2] }
  | _ => none }
def imagePlacesRow : OpenClaim := { program := "ytfmbpdacdopkgaagreatdoor", sum := "2ba9b4cd3c4ee1f82bfdedcfe841bf4d8f32079478ca65566328781e1b26a92e", func := "winch/winchlaw19.ImagePlaces", spec := "imagePlaces", inPlace := ["internal/bytealg.IndexByteString"], unfollowed := true, recurses := true, named := ["strconv.ErrSyntax", "strconv.ErrRange", "internal/strconv.uint64pow10", "math/bits.deBruijn32tab", "math/bits.deBruijn64tab", "winch/ast.shapes", "winch/list.shapes"], plainKeys := false, apart := false, laid := [("math/bits.deBruijn32tab", laid_math_bits_deBruijn32tab), ("math/bits.deBruijn64tab", laid_math_bits_deBruijn64tab), ("internal/strconv.uint64pow10", laid_internal_strconv_uint64pow10), ("strconv.ErrRange", laid_strconv_ErrRange), ("strconv.ErrSyntax", laid_strconv_ErrSyntax), ("winch/ast.shapes", laid_winch_ast_shapes), ("winch/list.shapes", laid_winch_list_shapes)] }
def ImagePlacesSaid : Prop := imagePlacesRow.holds Tryz.pinned (OpenSpec.ofChange imagePlacesSpec)

/-- ITS FALSE NEIGHBOUR: 'it returns false'. Refute it at one input. -/
def imagePlacesWrong : ChangeSpec := { name := "imagePlaces", fn := fun _ => fun
  | [d1, d2] => { results := [.lit (.bool false)], args := [d1, d2] }
  | _ => none }
def ImagePlacesWrongFalsely : Prop := imagePlacesRow.holds Tryz.pinned (OpenSpec.ofChange imagePlacesWrong)

/-- 'winchlaw19.ImageScans': WHATEVER THE INPUT: true; the input reads as it did. -/
def imageScansSpec : ChangeSpec := { name := "imageScans", fn := fun _ => fun
  | [d1, d2, d3] => { results := [.lit (.bool true)], args := [d1, d2, d3] }
  | _ => none }
def imageScansRow : OpenClaim := { program := "ytfmbpdacdopkgaagreatdoor", sum := "2ba9b4cd3c4ee1f82bfdedcfe841bf4d8f32079478ca65566328781e1b26a92e", func := "winch/winchlaw19.ImageScans", spec := "imageScans", inPlace := ["internal/bytealg.IndexByteString"], unfollowed := true, recurses := true, named := ["strconv.ErrSyntax", "strconv.ErrRange", "internal/strconv.uint64pow10", "math/bits.deBruijn32tab", "math/bits.deBruijn64tab", "winch/ast.shapes", "winch/list.shapes"], plainKeys := false, apart := false, laid := [("math/bits.deBruijn32tab", laid_math_bits_deBruijn32tab), ("math/bits.deBruijn64tab", laid_math_bits_deBruijn64tab), ("internal/strconv.uint64pow10", laid_internal_strconv_uint64pow10), ("strconv.ErrRange", laid_strconv_ErrRange), ("strconv.ErrSyntax", laid_strconv_ErrSyntax), ("winch/ast.shapes", laid_winch_ast_shapes), ("winch/list.shapes", laid_winch_list_shapes)] }
def ImageScansSaid : Prop := imageScansRow.holds Tryz.pinned (OpenSpec.ofChange imageScansSpec)

/-- ITS FALSE NEIGHBOUR: 'it returns false'. Refute it at one input. -/
def imageScansWrong : ChangeSpec := { name := "imageScans", fn := fun _ => fun
  | [d1, d2, d3] => { results := [.lit (.bool false)], args := [d1, d2, d3] }
  | _ => none }
def ImageScansWrongFalsely : Prop := imageScansRow.holds Tryz.pinned (OpenSpec.ofChange imageScansWrong)

/-- 'winchlaw19.ImageDiffs': WHATEVER THE INPUT: true; the input reads as it did. -/
def imageDiffsSpec : ChangeSpec := { name := "imageDiffs", fn := fun _ => fun
  | [d1, d2] => { results := [.lit (.bool true)], args := [d1, d2] }
  | _ => none }
def imageDiffsRow : OpenClaim := { program := "ytfmbpdacdopkgaagreatdoor", sum := "2ba9b4cd3c4ee1f82bfdedcfe841bf4d8f32079478ca65566328781e1b26a92e", func := "winch/winchlaw19.ImageDiffs", spec := "imageDiffs", inPlace := ["internal/bytealg.IndexByteString"], unfollowed := true, recurses := true, named := ["strconv.ErrSyntax", "strconv.ErrRange", "internal/strconv.uint64pow10", "math/bits.deBruijn32tab", "math/bits.deBruijn64tab", "winch/ast.shapes", "winch/list.shapes"], plainKeys := false, apart := false, laid := [("math/bits.deBruijn32tab", laid_math_bits_deBruijn32tab), ("math/bits.deBruijn64tab", laid_math_bits_deBruijn64tab), ("internal/strconv.uint64pow10", laid_internal_strconv_uint64pow10), ("strconv.ErrRange", laid_strconv_ErrRange), ("strconv.ErrSyntax", laid_strconv_ErrSyntax), ("winch/ast.shapes", laid_winch_ast_shapes), ("winch/list.shapes", laid_winch_list_shapes)] }
def ImageDiffsSaid : Prop := imageDiffsRow.holds Tryz.pinned (OpenSpec.ofChange imageDiffsSpec)

/-- ITS FALSE NEIGHBOUR: 'it returns false'. Refute it at one input. -/
def imageDiffsWrong : ChangeSpec := { name := "imageDiffs", fn := fun _ => fun
  | [d1, d2] => { results := [.lit (.bool false)], args := [d1, d2] }
  | _ => none }
def ImageDiffsWrongFalsely : Prop := imageDiffsRow.holds Tryz.pinned (OpenSpec.ofChange imageDiffsWrong)

/-- 'winchlaw19.ImageSlots': WHATEVER THE INPUT: true; the input reads as it did. -/
def imageSlotsSpec : ChangeSpec := { name := "imageSlots", fn := fun _ => fun
  | [d1, d2, d3] => { results := [.lit (.bool true)], args := [d1, d2, d3] }
  | _ => none }
def imageSlotsRow : OpenClaim := { program := "ytfmbpdacdopkgaagreatdoor", sum := "2ba9b4cd3c4ee1f82bfdedcfe841bf4d8f32079478ca65566328781e1b26a92e", func := "winch/winchlaw19.ImageSlots", spec := "imageSlots", inPlace := ["internal/bytealg.IndexByteString"], unfollowed := true, recurses := true, named := ["strconv.ErrSyntax", "strconv.ErrRange", "internal/strconv.uint64pow10", "math/bits.deBruijn32tab", "math/bits.deBruijn64tab", "winch/ast.shapes", "winch/list.shapes"], plainKeys := false, apart := false, laid := [("math/bits.deBruijn32tab", laid_math_bits_deBruijn32tab), ("math/bits.deBruijn64tab", laid_math_bits_deBruijn64tab), ("internal/strconv.uint64pow10", laid_internal_strconv_uint64pow10), ("strconv.ErrRange", laid_strconv_ErrRange), ("strconv.ErrSyntax", laid_strconv_ErrSyntax), ("winch/ast.shapes", laid_winch_ast_shapes), ("winch/list.shapes", laid_winch_list_shapes)] }
def ImageSlotsSaid : Prop := imageSlotsRow.holds Tryz.pinned (OpenSpec.ofChange imageSlotsSpec)

/-- ITS FALSE NEIGHBOUR: 'it returns false'. Refute it at one input. -/
def imageSlotsWrong : ChangeSpec := { name := "imageSlots", fn := fun _ => fun
  | [d1, d2, d3] => { results := [.lit (.bool false)], args := [d1, d2, d3] }
  | _ => none }
def ImageSlotsWrongFalsely : Prop := imageSlotsRow.holds Tryz.pinned (OpenSpec.ofChange imageSlotsWrong)

/-- 'winchlaw19.ImageOnly': WHATEVER THE INPUT: true; the input reads as it did. -/
def imageOnlySpec : ChangeSpec := { name := "imageOnly", fn := fun _ => fun
  | [d1, d2, d3] => { results := [.lit (.bool true)], args := [d1, d2, d3] }
  | _ => none }
def imageOnlyRow : OpenClaim := { program := "ytfmbpdacdopkgaagreatdoor", sum := "2ba9b4cd3c4ee1f82bfdedcfe841bf4d8f32079478ca65566328781e1b26a92e", func := "winch/winchlaw19.ImageOnly", spec := "imageOnly", inPlace := ["internal/bytealg.IndexByteString"], unfollowed := true, recurses := true, named := ["strconv.ErrSyntax", "strconv.ErrRange", "internal/strconv.uint64pow10", "math/bits.deBruijn32tab", "math/bits.deBruijn64tab", "winch/ast.shapes", "winch/list.shapes"], plainKeys := false, apart := false, laid := [("math/bits.deBruijn32tab", laid_math_bits_deBruijn32tab), ("math/bits.deBruijn64tab", laid_math_bits_deBruijn64tab), ("internal/strconv.uint64pow10", laid_internal_strconv_uint64pow10), ("strconv.ErrRange", laid_strconv_ErrRange), ("strconv.ErrSyntax", laid_strconv_ErrSyntax), ("winch/ast.shapes", laid_winch_ast_shapes), ("winch/list.shapes", laid_winch_list_shapes)] }
def ImageOnlySaid : Prop := imageOnlyRow.holds Tryz.pinned (OpenSpec.ofChange imageOnlySpec)

/-- ITS FALSE NEIGHBOUR: 'it returns false'. Refute it at one input. -/
def imageOnlyWrong : ChangeSpec := { name := "imageOnly", fn := fun _ => fun
  | [d1, d2, d3] => { results := [.lit (.bool false)], args := [d1, d2, d3] }
  | _ => none }
def ImageOnlyWrongFalsely : Prop := imageOnlyRow.holds Tryz.pinned (OpenSpec.ofChange imageOnlyWrong)

/- THE SECOND FORM. 'bulk': how many values and letters a reading holds, each counted each time it is reached (what is shared counts as often as it is met; a slice's spare places count too). A statement '..UptoSaid' is the law's where the arguments, and the package variables that the reading takes, are together of bulk at most 1048576: NARROWER than '..Said'. Prove '..Said' where nothing that the law and all that it calls make is longer than what came in: it says more and counts as full. Else prove '..UptoSaid'. A law counts once. -/
mutual
def uptoBulk {H : Type} : DataW H → Nat
  | .lit (.string bytes) => bytes.length + 1
  | .lit _ => 1
  | .nil => 1
  | .ptr d => uptoBulk d + 1
  | .slice elems spare => uptoBulkAll elems + uptoBulkAll spare + 1
  | .agg parts => uptoBulkAll parts + 1
  | .iface _ d => uptoBulk d + 1
  | .map entries => uptoBulkEntries entries + 1
  | .held _ => 1
def uptoBulkAll {H : Type} : List (DataW H) → Nat
  | [] => 0
  | d :: r => uptoBulk d + uptoBulkAll r
def uptoBulkEntries {H : Type} : List (Lit × DataW H) → Nat
  | [] => 0
  | x :: r => uptoBulkEntry x + uptoBulkEntries r
def uptoBulkEntry {H : Type} : Lit × DataW H → Nat
  | (.string bytes, d) => bytes.length + uptoBulk d + 1
  | (_, d) => uptoBulk d + 1
 end
def uptoSmall : (H : Type) → List (DataW H) → Bool := fun _ ds => decide (uptoBulkAll ds ≤ 1048576)
def OpenSpec.upto (s : _root_.Go.ChangeSpec) : _root_.Go.OpenSpec := { _root_.Go.OpenSpec.ofChange s with cond := some uptoSmall }

/-- 'winchlaw19.ImagePlaces', WHERE WHAT IT READS IS OF BULK AT MOST 1048576: true; the input reads as it did. -/
def imagePlacesUptoRow : OpenClaim := { program := "ytfmbpdacdopkgaagreatdoor", sum := "2ba9b4cd3c4ee1f82bfdedcfe841bf4d8f32079478ca65566328781e1b26a92e", func := "winch/winchlaw19.ImagePlaces", spec := "imagePlaces", inPlace := ["internal/bytealg.IndexByteString"], unfollowed := true, recurses := true, named := ["strconv.ErrSyntax", "strconv.ErrRange", "internal/strconv.uint64pow10", "math/bits.deBruijn32tab", "math/bits.deBruijn64tab", "winch/ast.shapes", "winch/list.shapes"], plainKeys := false, apart := false, laid := [("math/bits.deBruijn32tab", laid_math_bits_deBruijn32tab), ("math/bits.deBruijn64tab", laid_math_bits_deBruijn64tab), ("internal/strconv.uint64pow10", laid_internal_strconv_uint64pow10), ("strconv.ErrRange", laid_strconv_ErrRange), ("strconv.ErrSyntax", laid_strconv_ErrSyntax), ("winch/ast.shapes", laid_winch_ast_shapes), ("winch/list.shapes", laid_winch_list_shapes)], narrowed := true }
def ImagePlacesUptoSaid : Prop := imagePlacesUptoRow.holds Tryz.pinned (OpenSpec.upto imagePlacesSpec)

/-- 'winchlaw19.ImageScans', WHERE WHAT IT READS IS OF BULK AT MOST 1048576: true; the input reads as it did. -/
def imageScansUptoRow : OpenClaim := { program := "ytfmbpdacdopkgaagreatdoor", sum := "2ba9b4cd3c4ee1f82bfdedcfe841bf4d8f32079478ca65566328781e1b26a92e", func := "winch/winchlaw19.ImageScans", spec := "imageScans", inPlace := ["internal/bytealg.IndexByteString"], unfollowed := true, recurses := true, named := ["strconv.ErrSyntax", "strconv.ErrRange", "internal/strconv.uint64pow10", "math/bits.deBruijn32tab", "math/bits.deBruijn64tab", "winch/ast.shapes", "winch/list.shapes"], plainKeys := false, apart := false, laid := [("math/bits.deBruijn32tab", laid_math_bits_deBruijn32tab), ("math/bits.deBruijn64tab", laid_math_bits_deBruijn64tab), ("internal/strconv.uint64pow10", laid_internal_strconv_uint64pow10), ("strconv.ErrRange", laid_strconv_ErrRange), ("strconv.ErrSyntax", laid_strconv_ErrSyntax), ("winch/ast.shapes", laid_winch_ast_shapes), ("winch/list.shapes", laid_winch_list_shapes)], narrowed := true }
def ImageScansUptoSaid : Prop := imageScansUptoRow.holds Tryz.pinned (OpenSpec.upto imageScansSpec)

/-- 'winchlaw19.ImageDiffs', WHERE WHAT IT READS IS OF BULK AT MOST 1048576: true; the input reads as it did. -/
def imageDiffsUptoRow : OpenClaim := { program := "ytfmbpdacdopkgaagreatdoor", sum := "2ba9b4cd3c4ee1f82bfdedcfe841bf4d8f32079478ca65566328781e1b26a92e", func := "winch/winchlaw19.ImageDiffs", spec := "imageDiffs", inPlace := ["internal/bytealg.IndexByteString"], unfollowed := true, recurses := true, named := ["strconv.ErrSyntax", "strconv.ErrRange", "internal/strconv.uint64pow10", "math/bits.deBruijn32tab", "math/bits.deBruijn64tab", "winch/ast.shapes", "winch/list.shapes"], plainKeys := false, apart := false, laid := [("math/bits.deBruijn32tab", laid_math_bits_deBruijn32tab), ("math/bits.deBruijn64tab", laid_math_bits_deBruijn64tab), ("internal/strconv.uint64pow10", laid_internal_strconv_uint64pow10), ("strconv.ErrRange", laid_strconv_ErrRange), ("strconv.ErrSyntax", laid_strconv_ErrSyntax), ("winch/ast.shapes", laid_winch_ast_shapes), ("winch/list.shapes", laid_winch_list_shapes)], narrowed := true }
def ImageDiffsUptoSaid : Prop := imageDiffsUptoRow.holds Tryz.pinned (OpenSpec.upto imageDiffsSpec)

/-- 'winchlaw19.ImageSlots', WHERE WHAT IT READS IS OF BULK AT MOST 1048576: true; the input reads as it did. -/
def imageSlotsUptoRow : OpenClaim := { program := "ytfmbpdacdopkgaagreatdoor", sum := "2ba9b4cd3c4ee1f82bfdedcfe841bf4d8f32079478ca65566328781e1b26a92e", func := "winch/winchlaw19.ImageSlots", spec := "imageSlots", inPlace := ["internal/bytealg.IndexByteString"], unfollowed := true, recurses := true, named := ["strconv.ErrSyntax", "strconv.ErrRange", "internal/strconv.uint64pow10", "math/bits.deBruijn32tab", "math/bits.deBruijn64tab", "winch/ast.shapes", "winch/list.shapes"], plainKeys := false, apart := false, laid := [("math/bits.deBruijn32tab", laid_math_bits_deBruijn32tab), ("math/bits.deBruijn64tab", laid_math_bits_deBruijn64tab), ("internal/strconv.uint64pow10", laid_internal_strconv_uint64pow10), ("strconv.ErrRange", laid_strconv_ErrRange), ("strconv.ErrSyntax", laid_strconv_ErrSyntax), ("winch/ast.shapes", laid_winch_ast_shapes), ("winch/list.shapes", laid_winch_list_shapes)], narrowed := true }
def ImageSlotsUptoSaid : Prop := imageSlotsUptoRow.holds Tryz.pinned (OpenSpec.upto imageSlotsSpec)

/-- 'winchlaw19.ImageOnly', WHERE WHAT IT READS IS OF BULK AT MOST 1048576: true; the input reads as it did. -/
def imageOnlyUptoRow : OpenClaim := { program := "ytfmbpdacdopkgaagreatdoor", sum := "2ba9b4cd3c4ee1f82bfdedcfe841bf4d8f32079478ca65566328781e1b26a92e", func := "winch/winchlaw19.ImageOnly", spec := "imageOnly", inPlace := ["internal/bytealg.IndexByteString"], unfollowed := true, recurses := true, named := ["strconv.ErrSyntax", "strconv.ErrRange", "internal/strconv.uint64pow10", "math/bits.deBruijn32tab", "math/bits.deBruijn64tab", "winch/ast.shapes", "winch/list.shapes"], plainKeys := false, apart := false, laid := [("math/bits.deBruijn32tab", laid_math_bits_deBruijn32tab), ("math/bits.deBruijn64tab", laid_math_bits_deBruijn64tab), ("internal/strconv.uint64pow10", laid_internal_strconv_uint64pow10), ("strconv.ErrRange", laid_strconv_ErrRange), ("strconv.ErrSyntax", laid_strconv_ErrSyntax), ("winch/ast.shapes", laid_winch_ast_shapes), ("winch/list.shapes", laid_winch_list_shapes)], narrowed := true }
def ImageOnlyUptoSaid : Prop := imageOnlyUptoRow.holds Tryz.pinned (OpenSpec.upto imageOnlySpec)

end Rows
end Go.Proofs.YtfmbpdacdopkgaaGreatDoor
