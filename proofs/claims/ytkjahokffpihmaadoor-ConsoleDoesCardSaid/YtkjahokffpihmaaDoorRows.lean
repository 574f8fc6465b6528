/-
  NARROWER THAN 'FOR EVERY INPUT', by the rows' own cells (each row's printed sentence says how): ConsoleGuards: laid · ConsoleScrolls: laid · ConsoleTypes: laid · ConsoleBanner: laid · ConsoleDoes: laid · ConsoleHides: laid.
  DERIVED. THE GIVEN ROWS OF THIS SEAT. 6 by the template 'for every input the law returns true; each argument reads behind the call as it read before'; 0 by the template 'total and deterministic' (their statements: YtkjahokffpihmaaDoorTotals.lean).
  GIVEN WITH THE SEED: the statements are not yours to turn. If you find one false, say at which input.
  Laid BY PROGRAM, IN A SANDBOX (cutbox-rows.mjs): the forced cells as the released guide's own fill.sh prints them over the translation b0528707f1a84a26… (all of the seat's roots in one cut). By AI agents, Wed Nov 11 2026. No macro, syntax, notation, axiom, sorry.
-/
import Derived.Test.YtkjahokffpihmaaDoorChecked
import GoSem.Claim
import GoSem.ClaimJoined
import GoSem.ClaimMapViews
import Derived.JoinedTies
import Derived.KernelRfl
namespace Go.Proofs.YtkjahokffpihmaaDoor
/- THE CELL 'sum', in the pinned program and in every row, IS THE sha256 OF THE DUMP (.gsa) THAT YtkjahokffpihmaaDoorProg.lean LOADS. Nothing in Lean hashes anything: it is a label: what it is worth is what the hold of that sum in a sandbox is worth. -/
noncomputable def Tryd.pinned : Pinned := { name := "ytkjahokffpihmaadoor", sum := "b0528707f1a84a261fcb47b2efef92714db9a2136a29d4efddedc78581bb1852", checked := Tryd.checked }
namespace Rows
def none {H : Type} : Left H := { results := [], args := [] }

/- WHAT THE LISTED PACKAGE-LEVEL VARIABLES READ AS WHEN THE CALL BEGINS. Each datum BY PROGRAM (the guide's laid-datum.mjs) off the statement by which the dump's own 'gosem.cut.vars' lays the variable. In a bare row this is a premise. The card (YtkjahokffpihmaaDoorCards.lean) ties it to the program's text. -/
def laid_math_bits_deBruijn32tab {H : Type} : DataW H := .agg [.lit (.int .u8 0), .lit (.int .u8 1), .lit (.int .u8 28), .lit (.int .u8 2), .lit (.int .u8 29), .lit (.int .u8 14), .lit (.int .u8 24), .lit (.int .u8 3), .lit (.int .u8 30), .lit (.int .u8 22), .lit (.int .u8 20), .lit (.int .u8 15), .lit (.int .u8 25), .lit (.int .u8 17), .lit (.int .u8 4), .lit (.int .u8 8), .lit (.int .u8 31), .lit (.int .u8 27), .lit (.int .u8 13), .lit (.int .u8 23), .lit (.int .u8 21), .lit (.int .u8 19), .lit (.int .u8 16), .lit (.int .u8 7), .lit (.int .u8 26), .lit (.int .u8 12), .lit (.int .u8 18), .lit (.int .u8 6), .lit (.int .u8 11), .lit (.int .u8 5), .lit (.int .u8 10), .lit (.int .u8 9)]
def laid_math_bits_deBruijn64tab {H : Type} : DataW H := .agg [.lit (.int .u8 0), .lit (.int .u8 1), .lit (.int .u8 56), .lit (.int .u8 2), .lit (.int .u8 57), .lit (.int .u8 49), .lit (.int .u8 28), .lit (.int .u8 3), .lit (.int .u8 61), .lit (.int .u8 58), .lit (.int .u8 42), .lit (.int .u8 50), .lit (.int .u8 38), .lit (.int .u8 29), .lit (.int .u8 17), .lit (.int .u8 4), .lit (.int .u8 62), .lit (.int .u8 47), .lit (.int .u8 59), .lit (.int .u8 36), .lit (.int .u8 45), .lit (.int .u8 43), .lit (.int .u8 51), .lit (.int .u8 22), .lit (.int .u8 53), .lit (.int .u8 39), .lit (.int .u8 33), .lit (.int .u8 30), .lit (.int .u8 24), .lit (.int .u8 18), .lit (.int .u8 12), .lit (.int .u8 5), .lit (.int .u8 63), .lit (.int .u8 55), .lit (.int .u8 48), .lit (.int .u8 27), .lit (.int .u8 60), .lit (.int .u8 41), .lit (.int .u8 37), .lit (.int .u8 16), .lit (.int .u8 46), .lit (.int .u8 35), .lit (.int .u8 44), .lit (.int .u8 21), .lit (.int .u8 52), .lit (.int .u8 32), .lit (.int .u8 23), .lit (.int .u8 11), .lit (.int .u8 54), .lit (.int .u8 26), .lit (.int .u8 40), .lit (.int .u8 15), .lit (.int .u8 34), .lit (.int .u8 20), .lit (.int .u8 31), .lit (.int .u8 10), .lit (.int .u8 25), .lit (.int .u8 14), .lit (.int .u8 19), .lit (.int .u8 9), .lit (.int .u8 13), .lit (.int .u8 8), .lit (.int .u8 7), .lit (.int .u8 6)]
def laid_internal_strconv_uint64pow10 {H : Type} : DataW H := .agg [.lit (.int .u64 1), .lit (.int .u64 10), .lit (.int .u64 100), .lit (.int .u64 1000), .lit (.int .u64 10000), .lit (.int .u64 100000), .lit (.int .u64 1000000), .lit (.int .u64 10000000), .lit (.int .u64 100000000), .lit (.int .u64 1000000000), .lit (.int .u64 10000000000), .lit (.int .u64 100000000000), .lit (.int .u64 1000000000000), .lit (.int .u64 10000000000000), .lit (.int .u64 100000000000000), .lit (.int .u64 1000000000000000), .lit (.int .u64 10000000000000000), .lit (.int .u64 100000000000000000), .lit (.int .u64 1000000000000000000), .lit (.int .u64 10000000000000000000)]

/-- 'castellanlaw22.ConsoleGuards': WHATEVER THE INPUT: true; the input reads as it did. -/
def consoleGuardsSpec : ChangeSpec := { name := "consoleGuards", fn := fun _ => fun
  | [d1, d2, d3] => { results := [.lit (.bool true)], args := [d1, d2, d3] }
  | _ => none }
def consoleGuardsRow : OpenClaim := { program := "ytkjahokffpihmaadoor", sum := "b0528707f1a84a261fcb47b2efef92714db9a2136a29d4efddedc78581bb1852", func := "castellan/castellanlaw22.ConsoleGuards", spec := "consoleGuards", inPlace := ["internal/abi.NoEscape", "internal/bytealg.MakeNoZero"], unfollowed := true, recurses := true, named := ["internal/strconv.uint64pow10", "math/bits.deBruijn32tab", "math/bits.deBruijn64tab"], apart := false, laid := [("math/bits.deBruijn32tab", laid_math_bits_deBruijn32tab), ("math/bits.deBruijn64tab", laid_math_bits_deBruijn64tab), ("internal/strconv.uint64pow10", laid_internal_strconv_uint64pow10)] }
def ConsoleGuardsSaid : Prop := consoleGuardsRow.holds Tryd.pinned (OpenSpec.ofChange consoleGuardsSpec)

/-- ITS FALSE NEIGHBOUR: 'it returns false'. Refute it at one input. -/
def consoleGuardsWrong : ChangeSpec := { name := "consoleGuards", fn := fun _ => fun
  | [d1, d2, d3] => { results := [.lit (.bool false)], args := [d1, d2, d3] }
  | _ => none }
def ConsoleGuardsWrongFalsely : Prop := consoleGuardsRow.holds Tryd.pinned (OpenSpec.ofChange consoleGuardsWrong)

/-- 'castellanlaw22.ConsoleScrolls': WHATEVER THE INPUT: true; the input reads as it did. -/
def consoleScrollsSpec : ChangeSpec := { name := "consoleScrolls", fn := fun _ => fun
  | [d1, d2, d3] => { results := [.lit (.bool true)], args := [d1, d2, d3] }
  | _ => none }
def consoleScrollsRow : OpenClaim := { program := "ytkjahokffpihmaadoor", sum := "b0528707f1a84a261fcb47b2efef92714db9a2136a29d4efddedc78581bb1852", func := "castellan/castellanlaw22.ConsoleScrolls", spec := "consoleScrolls", inPlace := ["internal/abi.NoEscape", "internal/bytealg.MakeNoZero"], unfollowed := true, recurses := true, named := ["internal/strconv.uint64pow10", "math/bits.deBruijn32tab", "math/bits.deBruijn64tab"], apart := false, laid := [("math/bits.deBruijn32tab", laid_math_bits_deBruijn32tab), ("math/bits.deBruijn64tab", laid_math_bits_deBruijn64tab), ("internal/strconv.uint64pow10", laid_internal_strconv_uint64pow10)] }
def ConsoleScrollsSaid : Prop := consoleScrollsRow.holds Tryd.pinned (OpenSpec.ofChange consoleScrollsSpec)

/-- ITS FALSE NEIGHBOUR: 'it returns false'. Refute it at one input. -/
def consoleScrollsWrong : ChangeSpec := { name := "consoleScrolls", fn := fun _ => fun
  | [d1, d2, d3] => { results := [.lit (.bool false)], args := [d1, d2, d3] }
  | _ => none }
def ConsoleScrollsWrongFalsely : Prop := consoleScrollsRow.holds Tryd.pinned (OpenSpec.ofChange consoleScrollsWrong)

/-- 'castellanlaw22.ConsoleTypes': WHATEVER THE INPUT: true; the input reads as it did. -/
def consoleTypesSpec : ChangeSpec := { name := "consoleTypes", fn := fun _ => fun
  | [d1, d2, d3] => { results := [.lit (.bool true)], args := [d1, d2, d3] }
  | _ => none }
def consoleTypesRow : OpenClaim := { program := "ytkjahokffpihmaadoor", sum := "b0528707f1a84a261fcb47b2efef92714db9a2136a29d4efddedc78581bb1852", func := "castellan/castellanlaw22.ConsoleTypes", spec := "consoleTypes", inPlace := ["internal/abi.NoEscape", "internal/bytealg.MakeNoZero"], unfollowed := true, recurses := true, named := ["internal/strconv.uint64pow10", "math/bits.deBruijn32tab", "math/bits.deBruijn64tab"], apart := false, laid := [("math/bits.deBruijn32tab", laid_math_bits_deBruijn32tab), ("math/bits.deBruijn64tab", laid_math_bits_deBruijn64tab), ("internal/strconv.uint64pow10", laid_internal_strconv_uint64pow10)] }
def ConsoleTypesSaid : Prop := consoleTypesRow.holds Tryd.pinned (OpenSpec.ofChange consoleTypesSpec)

/-- ITS FALSE NEIGHBOUR: 'it returns false'. Refute it at one input. -/
def consoleTypesWrong : ChangeSpec := { name := "consoleTypes", fn := fun _ => fun
  | [d1, d2, d3] => { results := [.lit (.bool false)], args := [d1, d2, d3] }
  | _ => none }
def ConsoleTypesWrongFalsely : Prop := consoleTypesRow.holds Tryd.pinned (OpenSpec.ofChange consoleTypesWrong)

/-- 'castellanlaw22.ConsoleBanner': WHATEVER THE INPUT: true; the input reads as it did. -/
def consoleBannerSpec : ChangeSpec := { name := "consoleBanner", fn := fun _ => fun
  | [d1, d2, d3] => { results := [.lit (.bool true)], args := [d1, d2, d3] }
  | _ => none }
def consoleBannerRow : OpenClaim := { program := "ytkjahokffpihmaadoor", sum := "b0528707f1a84a261fcb47b2efef92714db9a2136a29d4efddedc78581bb1852", func := "castellan/castellanlaw22.ConsoleBanner", spec := "consoleBanner", inPlace := ["internal/abi.NoEscape", "internal/bytealg.MakeNoZero"], unfollowed := true, recurses := true, named := ["internal/strconv.uint64pow10", "math/bits.deBruijn32tab", "math/bits.deBruijn64tab"], apart := false, laid := [("math/bits.deBruijn32tab", laid_math_bits_deBruijn32tab), ("math/bits.deBruijn64tab", laid_math_bits_deBruijn64tab), ("internal/strconv.uint64pow10", laid_internal_strconv_uint64pow10)] }
def ConsoleBannerSaid : Prop := consoleBannerRow.holds Tryd.pinned (OpenSpec.ofChange consoleBannerSpec)

/-- ITS FALSE NEIGHBOUR: 'it returns false'. Refute it at one input. -/
def consoleBannerWrong : ChangeSpec := { name := "consoleBanner", fn := fun _ => fun
  | [d1, d2, d3] => { results := [.lit (.bool false)], args := [d1, d2, d3] }
  | _ => none }
def ConsoleBannerWrongFalsely : Prop := consoleBannerRow.holds Tryd.pinned (OpenSpec.ofChange consoleBannerWrong)

/-- 'castellanlaw22.ConsoleDoes': WHATEVER THE INPUT: true; the input reads as it did. -/
def consoleDoesSpec : ChangeSpec := { name := "consoleDoes", fn := fun _ => fun
  | [d1, d2, d3] => { results := [.lit (.bool true)], args := [d1, d2, d3] }
  | _ => none }
def consoleDoesRow : OpenClaim := { program := "ytkjahokffpihmaadoor", sum := "b0528707f1a84a261fcb47b2efef92714db9a2136a29d4efddedc78581bb1852", func := "castellan/castellanlaw22.ConsoleDoes", spec := "consoleDoes", inPlace := ["internal/abi.NoEscape", "internal/bytealg.MakeNoZero"], unfollowed := true, recurses := true, named := ["internal/strconv.uint64pow10", "math/bits.deBruijn32tab", "math/bits.deBruijn64tab"], apart := false, laid := [("math/bits.deBruijn32tab", laid_math_bits_deBruijn32tab), ("math/bits.deBruijn64tab", laid_math_bits_deBruijn64tab), ("internal/strconv.uint64pow10", laid_internal_strconv_uint64pow10)] }
def ConsoleDoesSaid : Prop := consoleDoesRow.holds Tryd.pinned (OpenSpec.ofChange consoleDoesSpec)

/-- ITS FALSE NEIGHBOUR: 'it returns false'. Refute it at one input. -/
def consoleDoesWrong : ChangeSpec := { name := "consoleDoes", fn := fun _ => fun
  | [d1, d2, d3] => { results := [.lit (.bool false)], args := [d1, d2, d3] }
  | _ => none }
def ConsoleDoesWrongFalsely : Prop := consoleDoesRow.holds Tryd.pinned (OpenSpec.ofChange consoleDoesWrong)

/-- 'castellanlaw22.ConsoleHides': WHATEVER THE INPUT: true; the input reads as it did. -/
def consoleHidesSpec : ChangeSpec := { name := "consoleHides", fn := fun _ => fun
  | [d1, d2, d3] => { results := [.lit (.bool true)], args := [d1, d2, d3] }
  | _ => none }
def consoleHidesRow : OpenClaim := { program := "ytkjahokffpihmaadoor", sum := "b0528707f1a84a261fcb47b2efef92714db9a2136a29d4efddedc78581bb1852", func := "castellan/castellanlaw22.ConsoleHides", spec := "consoleHides", inPlace := ["internal/abi.NoEscape", "internal/bytealg.MakeNoZero"], unfollowed := true, recurses := true, named := ["internal/strconv.uint64pow10", "math/bits.deBruijn32tab", "math/bits.deBruijn64tab"], apart := false, laid := [("math/bits.deBruijn32tab", laid_math_bits_deBruijn32tab), ("math/bits.deBruijn64tab", laid_math_bits_deBruijn64tab), ("internal/strconv.uint64pow10", laid_internal_strconv_uint64pow10)] }
def ConsoleHidesSaid : Prop := consoleHidesRow.holds Tryd.pinned (OpenSpec.ofChange consoleHidesSpec)

/-- ITS FALSE NEIGHBOUR: 'it returns false'. Refute it at one input. -/
def consoleHidesWrong : ChangeSpec := { name := "consoleHides", fn := fun _ => fun
  | [d1, d2, d3] => { results := [.lit (.bool false)], args := [d1, d2, d3] }
  | _ => none }
def ConsoleHidesWrongFalsely : Prop := consoleHidesRow.holds Tryd.pinned (OpenSpec.ofChange consoleHidesWrong)

/- THE SECOND FORM. 'bulk': how many values and letters a reading holds, each counted each time it is reached (what is shared counts as often as it is met; a slice's spare places count too). A statement '..UptoSaid' is the law's where the arguments, and the package variables that the reading takes, are together of bulk at most 1048576: NARROWER than '..Said'. Prove '..Said' where nothing that the law and all that it calls make is longer than what came in: it says more and counts as full. Else prove '..UptoSaid'. A law counts once. -/
mutual
def uptoBulk {H : Type} : DataW H → Nat
  | .lit (.string bytes) => bytes.length + 1
  | .lit _ => 1
  | .nil => 1
  | .ptr d => uptoBulk d + 1
  | .slice elems spare => uptoBulkAll elems + uptoBulkAll spare + 1
  | .agg parts => uptoBulkAll parts + 1
  | .iface _ d => uptoBulk d + 1
  | .map entries => uptoBulkEntries entries + 1
  | .held _ => 1
def uptoBulkAll {H : Type} : List (DataW H) → Nat
  | [] => 0
  | d :: r => uptoBulk d + uptoBulkAll r
def uptoBulkEntries {H : Type} : List (Lit × DataW H) → Nat
  | [] => 0
  | x :: r => uptoBulkEntry x + uptoBulkEntries r
def uptoBulkEntry {H : Type} : Lit × DataW H → Nat
  | (.string bytes, d) => bytes.length + uptoBulk d + 1
  | (_, d) => uptoBulk d + 1
 end
def uptoSmall : (H : Type) → List (DataW H) → Bool := fun _ ds => decide (uptoBulkAll ds ≤ 1048576)
def OpenSpec.upto (s : _root_.Go.ChangeSpec) : _root_.Go.OpenSpec := { _root_.Go.OpenSpec.ofChange s with cond := some uptoSmall }

/-- 'castellanlaw22.ConsoleGuards', WHERE WHAT IT READS IS OF BULK AT MOST 1048576: true; the input reads as it did. -/
def consoleGuardsUptoRow : OpenClaim := { program := "ytkjahokffpihmaadoor", sum := "b0528707f1a84a261fcb47b2efef92714db9a2136a29d4efddedc78581bb1852", func := "castellan/castellanlaw22.ConsoleGuards", spec := "consoleGuards", inPlace := ["internal/abi.NoEscape", "internal/bytealg.MakeNoZero"], unfollowed := true, recurses := true, named := ["internal/strconv.uint64pow10", "math/bits.deBruijn32tab", "math/bits.deBruijn64tab"], apart := false, laid := [("math/bits.deBruijn32tab", laid_math_bits_deBruijn32tab), ("math/bits.deBruijn64tab", laid_math_bits_deBruijn64tab), ("internal/strconv.uint64pow10", laid_internal_strconv_uint64pow10)], narrowed := true }
def ConsoleGuardsUptoSaid : Prop := consoleGuardsUptoRow.holds Tryd.pinned (OpenSpec.upto consoleGuardsSpec)

/-- 'castellanlaw22.ConsoleScrolls', WHERE WHAT IT READS IS OF BULK AT MOST 1048576: true; the input reads as it did. -/
def consoleScrollsUptoRow : OpenClaim := { program := "ytkjahokffpihmaadoor", sum := "b0528707f1a84a261fcb47b2efef92714db9a2136a29d4efddedc78581bb1852", func := "castellan/castellanlaw22.ConsoleScrolls", spec := "consoleScrolls", inPlace := ["internal/abi.NoEscape", "internal/bytealg.MakeNoZero"], unfollowed := true, recurses := true, named := ["internal/strconv.uint64pow10", "math/bits.deBruijn32tab", "math/bits.deBruijn64tab"], apart := false, laid := [("math/bits.deBruijn32tab", laid_math_bits_deBruijn32tab), ("math/bits.deBruijn64tab", laid_math_bits_deBruijn64tab), ("internal/strconv.uint64pow10", laid_internal_strconv_uint64pow10)], narrowed := true }
def ConsoleScrollsUptoSaid : Prop := consoleScrollsUptoRow.holds Tryd.pinned (OpenSpec.upto consoleScrollsSpec)

/-- 'castellanlaw22.ConsoleTypes', WHERE WHAT IT READS IS OF BULK AT MOST 1048576: true; the input reads as it did. -/
def consoleTypesUptoRow : OpenClaim := { program := "ytkjahokffpihmaadoor", sum := "b0528707f1a84a261fcb47b2efef92714db9a2136a29d4efddedc78581bb1852", func := "castellan/castellanlaw22.ConsoleTypes", spec := "consoleTypes", inPlace := ["internal/abi.NoEscape", "internal/bytealg.MakeNoZero"], unfollowed := true, recurses := true, named := ["internal/strconv.uint64pow10", "math/bits.deBruijn32tab", "math/bits.deBruijn64tab"], apart := false, laid := [("math/bits.deBruijn32tab", laid_math_bits_deBruijn32tab), ("math/bits.deBruijn64tab", laid_math_bits_deBruijn64tab), ("internal/strconv.uint64pow10", laid_internal_strconv_uint64pow10)], narrowed := true }
def ConsoleTypesUptoSaid : Prop := consoleTypesUptoRow.holds Tryd.pinned (OpenSpec.upto consoleTypesSpec)

/-- 'castellanlaw22.ConsoleBanner', WHERE WHAT IT READS IS OF BULK AT MOST 1048576: true; the input reads as it did. -/
def consoleBannerUptoRow : OpenClaim := { program := "ytkjahokffpihmaadoor", sum := "b0528707f1a84a261fcb47b2efef92714db9a2136a29d4efddedc78581bb1852", func := "castellan/castellanlaw22.ConsoleBanner", spec := "consoleBanner", inPlace := ["internal/abi.NoEscape", "internal/bytealg.MakeNoZero"], unfollowed := true, recurses := true, named := ["internal/strconv.uint64pow10", "math/bits.deBruijn32tab", "math/bits.deBruijn64tab"], apart := false, laid := [("math/bits.deBruijn32tab", laid_math_bits_deBruijn32tab), ("math/bits.deBruijn64tab", laid_math_bits_deBruijn64tab), ("internal/strconv.uint64pow10", laid_internal_strconv_uint64pow10)], narrowed := true }
def ConsoleBannerUptoSaid : Prop := consoleBannerUptoRow.holds Tryd.pinned (OpenSpec.upto consoleBannerSpec)

/-- 'castellanlaw22.ConsoleDoes', WHERE WHAT IT READS IS OF BULK AT MOST 1048576: true; the input reads as it did. -/
def consoleDoesUptoRow : OpenClaim := { program := "ytkjahokffpihmaadoor", sum := "b0528707f1a84a261fcb47b2efef92714db9a2136a29d4efddedc78581bb1852", func := "castellan/castellanlaw22.ConsoleDoes", spec := "consoleDoes", inPlace := ["internal/abi.NoEscape", "internal/bytealg.MakeNoZero"], unfollowed := true, recurses := true, named := ["internal/strconv.uint64pow10", "math/bits.deBruijn32tab", "math/bits.deBruijn64tab"], apart := false, laid := [("math/bits.deBruijn32tab", laid_math_bits_deBruijn32tab), ("math/bits.deBruijn64tab", laid_math_bits_deBruijn64tab), ("internal/strconv.uint64pow10", laid_internal_strconv_uint64pow10)], narrowed := true }
def ConsoleDoesUptoSaid : Prop := consoleDoesUptoRow.holds Tryd.pinned (OpenSpec.upto consoleDoesSpec)

/-- 'castellanlaw22.ConsoleHides', WHERE WHAT IT READS IS OF BULK AT MOST 1048576: true; the input reads as it did. -/
def consoleHidesUptoRow : OpenClaim := { program := "ytkjahokffpihmaadoor", sum := "b0528707f1a84a261fcb47b2efef92714db9a2136a29d4efddedc78581bb1852", func := "castellan/castellanlaw22.ConsoleHides", spec := "consoleHides", inPlace := ["internal/abi.NoEscape", "internal/bytealg.MakeNoZero"], unfollowed := true, recurses := true, named := ["internal/strconv.uint64pow10", "math/bits.deBruijn32tab", "math/bits.deBruijn64tab"], apart := false, laid := [("math/bits.deBruijn32tab", laid_math_bits_deBruijn32tab), ("math/bits.deBruijn64tab", laid_math_bits_deBruijn64tab), ("internal/strconv.uint64pow10", laid_internal_strconv_uint64pow10)], narrowed := true }
def ConsoleHidesUptoSaid : Prop := consoleHidesUptoRow.holds Tryd.pinned (OpenSpec.upto consoleHidesSpec)

end Rows
end Go.Proofs.YtkjahokffpihmaaDoor
