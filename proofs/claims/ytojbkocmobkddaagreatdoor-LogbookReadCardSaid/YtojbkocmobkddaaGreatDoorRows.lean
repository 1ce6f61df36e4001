/-
  NARROWER THAN 'FOR EVERY INPUT', by the rows' own cells (each row's printed sentence says how): LogbookParts: laid · LogbookKnown: laid · LogbookFewest: laid · LogbookSwaps: laid · LogbookLines: laid · LogbookNone: laid · LogbookKept: laid · LogbookWhere: laid · LogbookRead: laid · LogbookFiles: laid.
  DERIVED. THE GIVEN ROWS OF THIS SEAT. 10 by the template 'for every input the law returns true; each argument reads behind the call as it read before'; 0 by the template 'total and deterministic' (their statements: YtojbkocmobkddaaGreatDoorTotals.lean).
  GIVEN WITH THE SEED: the statements are not yours to turn. If you find one false, say at which input.
  Laid BY PROGRAM, IN A SANDBOX (cutbox-rows.mjs): the forced cells as the released guide's own fill.sh prints them over the translation 527d8986ad2b3bb2… (all of the seat's roots in one cut). By AI agents, Wed Nov 11 2026. No macro, syntax, notation, axiom, sorry.
-/
import Derived.Test.YtojbkocmobkddaaGreatDoorChecked
import GoSem.PinnedTables
import GoSem.Claim
import GoSem.ClaimJoined
import GoSem.ClaimMapViews
import Derived.JoinedTies
import Derived.KernelRfl
namespace Go.Proofs.YtojbkocmobkddaaGreatDoor
/- THE CELL 'sum', in the pinned program and in every row, IS THE sha256 OF THE DUMP (.gsa) THAT YtojbkocmobkddaaGreatDoorProg.lean LOADS. Nothing in Lean hashes anything: it is a label: what it is worth is what the hold of that sum in a sandbox is worth. -/
noncomputable def Tryz.pinned : Pinned := { name := "ytojbkocmobkddaagreatdoor", sum := "527d8986ad2b3bb2486e0c89ccb5e02b452e74c8be6557a3fb312f7a28d7de7d", checked := Tryz.checked }
namespace Rows
def none {H : Type} : Left H := { results := [], args := [] }

/- WHAT THE LISTED PACKAGE-LEVEL VARIABLES READ AS WHEN THE CALL BEGINS. Each datum BY PROGRAM (the guide's laid-datum.mjs) off the statement by which the dump's own 'gosem.cut.vars' lays the variable. In a bare row this is a premise. The card (YtojbkocmobkddaaGreatDoorCards.lean) ties it to the program's text. -/
def laid_math_bits_deBruijn32tab {H : Type} : DataW H := .agg [.lit (.int .u8 0), .lit (.int .u8 1), .lit (.int .u8 28), .lit (.int .u8 2), .lit (.int .u8 29), .lit (.int .u8 14), .lit (.int .u8 24), .lit (.int .u8 3), .lit (.int .u8 30), .lit (.int .u8 22), .lit (.int .u8 20), .lit (.int .u8 15), .lit (.int .u8 25), .lit (.int .u8 17), .lit (.int .u8 4), .lit (.int .u8 8), .lit (.int .u8 31), .lit (.int .u8 27), .lit (.int .u8 13), .lit (.int .u8 23), .lit (.int .u8 21), .lit (.int .u8 19), .lit (.int .u8 16), .lit (.int .u8 7), .lit (.int .u8 26), .lit (.int .u8 12), .lit (.int .u8 18), .lit (.int .u8 6), .lit (.int .u8 11), .lit (.int .u8 5), .lit (.int .u8 10), .lit (.int .u8 9)]
def laid_math_bits_deBruijn64tab {H : Type} : DataW H := .agg [.lit (.int .u8 0), .lit (.int .u8 1), .lit (.int .u8 56), .lit (.int .u8 2), .lit (.int .u8 57), .lit (.int .u8 49), .lit (.int .u8 28), .lit (.int .u8 3), .lit (.int .u8 61), .lit (.int .u8 58), .lit (.int .u8 42), .lit (.int .u8 50), .lit (.int .u8 38), .lit (.int .u8 29), .lit (.int .u8 17), .lit (.int .u8 4), .lit (.int .u8 62), .lit (.int .u8 47), .lit (.int .u8 59), .lit (.int .u8 36), .lit (.int .u8 45), .lit (.int .u8 43), .lit (.int .u8 51), .lit (.int .u8 22), .lit (.int .u8 53), .lit (.int .u8 39), .lit (.int .u8 33), .lit (.int .u8 30), .lit (.int .u8 24), .lit (.int .u8 18), .lit (.int .u8 12), .lit (.int .u8 5), .lit (.int .u8 63), .lit (.int .u8 55), .lit (.int .u8 48), .lit (.int .u8 27), .lit (.int .u8 60), .lit (.int .u8 41), .lit (.int .u8 37), .lit (.int .u8 16), .lit (.int .u8 46), .lit (.int .u8 35), .lit (.int .u8 44), .lit (.int .u8 21), .lit (.int .u8 52), .lit (.int .u8 32), .lit (.int .u8 23), .lit (.int .u8 11), .lit (.int .u8 54), .lit (.int .u8 26), .lit (.int .u8 40), .lit (.int .u8 15), .lit (.int .u8 34), .lit (.int .u8 20), .lit (.int .u8 31), .lit (.int .u8 10), .lit (.int .u8 25), .lit (.int .u8 14), .lit (.int .u8 19), .lit (.int .u8 9), .lit (.int .u8 13), .lit (.int .u8 8), .lit (.int .u8 7), .lit (.int .u8 6)]
def laid_internal_strconv_uint64pow10 {H : Type} : DataW H := .agg [.lit (.int .u64 1), .lit (.int .u64 10), .lit (.int .u64 100), .lit (.int .u64 1000), .lit (.int .u64 10000), .lit (.int .u64 100000), .lit (.int .u64 1000000), .lit (.int .u64 10000000), .lit (.int .u64 100000000), .lit (.int .u64 1000000000), .lit (.int .u64 10000000000), .lit (.int .u64 100000000000), .lit (.int .u64 1000000000000), .lit (.int .u64 10000000000000), .lit (.int .u64 100000000000000), .lit (.int .u64 1000000000000000), .lit (.int .u64 10000000000000000), .lit (.int .u64 100000000000000000), .lit (.int .u64 1000000000000000000), .lit (.int .u64 10000000000000000000)]
def laid_unicode_utf8_acceptRanges {H : Type} : DataW H := .agg [.agg [.lit (.int .u8 128), .lit (.int .u8 191)], .agg [.lit (.int .u8 160), .lit (.int .u8 191)], .agg [.lit (.int .u8 128), .lit (.int .u8 159)], .agg [.lit (.int .u8 144), .lit (.int .u8 191)], .agg [.lit (.int .u8 128), .lit (.int .u8 143)], .agg [.lit (.int .u8 0), .lit (.int .u8 0)], .agg [.lit (.int .u8 0), .lit (.int .u8 0)], .agg [.lit (.int .u8 0), .lit (.int .u8 0)], .agg [.lit (.int .u8 0), .lit (.int .u8 0)], .agg [.lit (.int .u8 0), .lit (.int .u8 0)], .agg [.lit (.int .u8 0), .lit (.int .u8 0)], .agg [.lit (.int .u8 0), .lit (.int .u8 0)], .agg [.lit (.int .u8 0), .lit (.int .u8 0)], .agg [.lit (.int .u8 0), .lit (.int .u8 0)], .agg [.lit (.int .u8 0), .lit (.int .u8 0)], .agg [.lit (.int .u8 0), .lit (.int .u8 0)]]
def laid_strconv_ErrRange {H : Type} : DataW H := .iface "*errors.errorString" (.ptr (.agg [.lit (.string [118, 97, 108, 117, 101, 32, 111, 117, 116, 32, 111, 102, 32, 114, 97, 110, 103, 101])]))
def laid_strconv_ErrSyntax {H : Type} : DataW H := .iface "*errors.errorString" (.ptr (.agg [.lit (.string [105, 110, 118, 97, 108, 105, 100, 32, 115, 121, 110, 116, 97, 120])]))
def laid_agonic_logbook_kinds {H : Type} : DataW H := .slice [.lit (.string [98, 111, 119, 108]), .lit (.string [99, 97, 112]), .lit (.string [110, 101, 101, 100, 108, 101]), .lit (.string [112, 105, 118, 111, 116])] []
/-- One of Go's own tables, pinned by name: the form's constant. -/
def laid_unicode_utf8_first : DataW Unit := Go.Pinned.utf8First

/-- 'agoniclaw14.LogbookParts': WHATEVER THE INPUT: true; the input reads as it did. -/
def logbookPartsSpec : ChangeSpec := { name := "logbookParts", fn := fun _ => fun
  | [d1, d2, d3, d4] => { results := [.lit (.bool true)], args := [d1, d2, d3, d4] }
  | _ => none }
def logbookPartsRow : OpenClaim := { program := "ytojbkocmobkddaagreatdoor", sum := "527d8986ad2b3bb2486e0c89ccb5e02b452e74c8be6557a3fb312f7a28d7de7d", func := "agonic/agoniclaw14.LogbookParts", spec := "logbookParts", inPlace := ["internal/bytealg.IndexByteString", "internal/bytealg.CountString", "internal/bytealg.IndexString", "internal/abi.NoEscape", "internal/bytealg.MakeNoZero"], unfollowed := true, recurses := true, named := ["unicode/utf8.first", "unicode/utf8.acceptRanges", "internal/bytealg.MaxLen", "strconv.ErrSyntax", "strconv.ErrRange", "internal/strconv.uint64pow10", "math/bits.deBruijn32tab", "math/bits.deBruijn64tab", "agonic/logbook.kinds"], plainKeys := false, apart := false, laid := [("math/bits.deBruijn32tab", laid_math_bits_deBruijn32tab), ("math/bits.deBruijn64tab", laid_math_bits_deBruijn64tab), ("internal/strconv.uint64pow10", laid_internal_strconv_uint64pow10), ("unicode/utf8.acceptRanges", laid_unicode_utf8_acceptRanges), ("strconv.ErrRange", laid_strconv_ErrRange), ("strconv.ErrSyntax", laid_strconv_ErrSyntax), ("agonic/logbook.kinds", laid_agonic_logbook_kinds), ("unicode/utf8.first", laid_unicode_utf8_first)] }
def LogbookPartsSaid : Prop := logbookPartsRow.holds Tryz.pinned (OpenSpec.ofChange logbookPartsSpec)

/-- ITS FALSE NEIGHBOUR: 'it returns false'. Refute it at one input. -/
def logbookPartsWrong : ChangeSpec := { name := "logbookParts", fn := fun _ => fun
  | [d1, d2, d3, d4] => { results := [.lit (.bool false)], args := [d1, d2, d3, d4] }
  | _ => none }
def LogbookPartsWrongFalsely : Prop := logbookPartsRow.holds Tryz.pinned (OpenSpec.ofChange logbookPartsWrong)

/-- 'agoniclaw14.LogbookKnown': WHATEVER THE INPUT: true; the input reads as it did. -/
def logbookKnownSpec : ChangeSpec := { name := "logbookKnown", fn := fun _ => fun
  | [] => { results := [.lit (.bool true)], args := [] }
  | _ => none }
def logbookKnownRow : OpenClaim := { program := "ytojbkocmobkddaagreatdoor", sum := "527d8986ad2b3bb2486e0c89ccb5e02b452e74c8be6557a3fb312f7a28d7de7d", func := "agonic/agoniclaw14.LogbookKnown", spec := "logbookKnown", inPlace := ["internal/bytealg.IndexByteString", "internal/bytealg.CountString", "internal/bytealg.IndexString", "internal/abi.NoEscape", "internal/bytealg.MakeNoZero"], unfollowed := true, recurses := true, named := ["unicode/utf8.first", "unicode/utf8.acceptRanges", "internal/bytealg.MaxLen", "strconv.ErrSyntax", "strconv.ErrRange", "internal/strconv.uint64pow10", "math/bits.deBruijn32tab", "math/bits.deBruijn64tab", "agonic/logbook.kinds"], plainKeys := false, apart := false, laid := [("math/bits.deBruijn32tab", laid_math_bits_deBruijn32tab), ("math/bits.deBruijn64tab", laid_math_bits_deBruijn64tab), ("internal/strconv.uint64pow10", laid_internal_strconv_uint64pow10), ("unicode/utf8.acceptRanges", laid_unicode_utf8_acceptRanges), ("strconv.ErrRange", laid_strconv_ErrRange), ("strconv.ErrSyntax", laid_strconv_ErrSyntax), ("agonic/logbook.kinds", laid_agonic_logbook_kinds), ("unicode/utf8.first", laid_unicode_utf8_first)] }
def LogbookKnownSaid : Prop := logbookKnownRow.holds Tryz.pinned (OpenSpec.ofChange logbookKnownSpec)

/-- ITS FALSE NEIGHBOUR: 'it returns false'. Refute it at one input. -/
def logbookKnownWrong : ChangeSpec := { name := "logbookKnown", fn := fun _ => fun
  | [] => { results := [.lit (.bool false)], args := [] }
  | _ => none }
def LogbookKnownWrongFalsely : Prop := logbookKnownRow.holds Tryz.pinned (OpenSpec.ofChange logbookKnownWrong)

/-- 'agoniclaw14.LogbookFewest': WHATEVER THE INPUT: true; the input reads as it did. -/
def logbookFewestSpec : ChangeSpec := { name := "logbookFewest", fn := fun _ => fun
  | [d] => { results := [.lit (.bool true)], args := [d] }
  | _ => none }
def logbookFewestRow : OpenClaim := { program := "ytojbkocmobkddaagreatdoor", sum := "527d8986ad2b3bb2486e0c89ccb5e02b452e74c8be6557a3fb312f7a28d7de7d", func := "agonic/agoniclaw14.LogbookFewest", spec := "logbookFewest", inPlace := ["internal/bytealg.CountString", "internal/bytealg.IndexByteString", "internal/bytealg.IndexString", "internal/abi.NoEscape", "internal/bytealg.MakeNoZero"], unfollowed := true, recurses := true, named := ["internal/strconv.uint64pow10", "math/bits.deBruijn32tab", "math/bits.deBruijn64tab", "unicode/utf8.first", "unicode/utf8.acceptRanges", "internal/bytealg.MaxLen", "strconv.ErrSyntax", "strconv.ErrRange", "agonic/logbook.kinds"], plainKeys := false, apart := false, laid := [("math/bits.deBruijn32tab", laid_math_bits_deBruijn32tab), ("math/bits.deBruijn64tab", laid_math_bits_deBruijn64tab), ("internal/strconv.uint64pow10", laid_internal_strconv_uint64pow10), ("unicode/utf8.acceptRanges", laid_unicode_utf8_acceptRanges), ("strconv.ErrRange", laid_strconv_ErrRange), ("strconv.ErrSyntax", laid_strconv_ErrSyntax), ("agonic/logbook.kinds", laid_agonic_logbook_kinds), ("unicode/utf8.first", laid_unicode_utf8_first)] }
def LogbookFewestSaid : Prop := logbookFewestRow.holds Tryz.pinned (OpenSpec.ofChange logbookFewestSpec)

/-- ITS FALSE NEIGHBOUR: 'it returns false'. Refute it at one input. -/
def logbookFewestWrong : ChangeSpec := { name := "logbookFewest", fn := fun _ => fun
  | [d] => { results := [.lit (.bool false)], args := [d] }
  | _ => none }
def LogbookFewestWrongFalsely : Prop := logbookFewestRow.holds Tryz.pinned (OpenSpec.ofChange logbookFewestWrong)

/-- 'agoniclaw14.LogbookSwaps': WHATEVER THE INPUT: true; the input reads as it did. -/
def logbookSwapsSpec : ChangeSpec := { name := "logbookSwaps", fn := fun _ => fun
  | [d1, d2, d3] => { results := [.lit (.bool true)], args := [d1, d2, d3] }
  | _ => none }
def logbookSwapsRow : OpenClaim := { program := "ytojbkocmobkddaagreatdoor", sum := "527d8986ad2b3bb2486e0c89ccb5e02b452e74c8be6557a3fb312f7a28d7de7d", func := "agonic/agoniclaw14.LogbookSwaps", spec := "logbookSwaps", inPlace := ["internal/bytealg.CountString", "internal/bytealg.IndexByteString", "internal/bytealg.IndexString", "internal/abi.NoEscape", "internal/bytealg.MakeNoZero"], unfollowed := true, recurses := true, named := ["internal/strconv.uint64pow10", "math/bits.deBruijn32tab", "math/bits.deBruijn64tab", "unicode/utf8.first", "unicode/utf8.acceptRanges", "internal/bytealg.MaxLen", "strconv.ErrSyntax", "strconv.ErrRange", "agonic/logbook.kinds"], plainKeys := false, apart := false, laid := [("math/bits.deBruijn32tab", laid_math_bits_deBruijn32tab), ("math/bits.deBruijn64tab", laid_math_bits_deBruijn64tab), ("internal/strconv.uint64pow10", laid_internal_strconv_uint64pow10), ("unicode/utf8.acceptRanges", laid_unicode_utf8_acceptRanges), ("strconv.ErrRange", laid_strconv_ErrRange), ("strconv.ErrSyntax", laid_strconv_ErrSyntax), ("agonic/logbook.kinds", laid_agonic_logbook_kinds), ("unicode/utf8.first", laid_unicode_utf8_first)] }
def LogbookSwapsSaid : Prop := logbookSwapsRow.holds Tryz.pinned (OpenSpec.ofChange logbookSwapsSpec)

/-- ITS FALSE NEIGHBOUR: 'it returns false'. Refute it at one input. -/
def logbookSwapsWrong : ChangeSpec := { name := "logbookSwaps", fn := fun _ => fun
  | [d1, d2, d3] => { results := [.lit (.bool false)], args := [d1, d2, d3] }
  | _ => none }
def LogbookSwapsWrongFalsely : Prop := logbookSwapsRow.holds Tryz.pinned (OpenSpec.ofChange logbookSwapsWrong)

/-- 'agoniclaw14.LogbookLines': WHATEVER THE INPUT: true; the input reads as it did. -/
def logbookLinesSpec : ChangeSpec := { name := "logbookLines", fn := fun _ => fun
  | [d1, d2] => { results := [.lit (.bool true)], args := [d1, d2] }
  | _ => none }
def logbookLinesRow : OpenClaim := { program := "ytojbkocmobkddaagreatdoor", sum := "527d8986ad2b3bb2486e0c89ccb5e02b452e74c8be6557a3fb312f7a28d7de7d", func := "agonic/agoniclaw14.LogbookLines", spec := "logbookLines", inPlace := ["internal/bytealg.IndexByteString", "internal/bytealg.CountString", "internal/bytealg.IndexString", "internal/abi.NoEscape", "internal/bytealg.MakeNoZero"], unfollowed := true, recurses := true, named := ["unicode/utf8.first", "unicode/utf8.acceptRanges", "internal/bytealg.MaxLen", "strconv.ErrSyntax", "strconv.ErrRange", "internal/strconv.uint64pow10", "math/bits.deBruijn32tab", "math/bits.deBruijn64tab", "agonic/logbook.kinds"], plainKeys := false, apart := false, laid := [("math/bits.deBruijn32tab", laid_math_bits_deBruijn32tab), ("math/bits.deBruijn64tab", laid_math_bits_deBruijn64tab), ("internal/strconv.uint64pow10", laid_internal_strconv_uint64pow10), ("unicode/utf8.acceptRanges", laid_unicode_utf8_acceptRanges), ("strconv.ErrRange", laid_strconv_ErrRange), ("strconv.ErrSyntax", laid_strconv_ErrSyntax), ("agonic/logbook.kinds", laid_agonic_logbook_kinds), ("unicode/utf8.first", laid_unicode_utf8_first)] }
def LogbookLinesSaid : Prop := logbookLinesRow.holds Tryz.pinned (OpenSpec.ofChange logbookLinesSpec)

/-- ITS FALSE NEIGHBOUR: 'it returns false'. Refute it at one input. -/
def logbookLinesWrong : ChangeSpec := { name := "logbookLines", fn := fun _ => fun
  | [d1, d2] => { results := [.lit (.bool false)], args := [d1, d2] }
  | _ => none }
def LogbookLinesWrongFalsely : Prop := logbookLinesRow.holds Tryz.pinned (OpenSpec.ofChange logbookLinesWrong)

/-- 'agoniclaw14.LogbookNone': WHATEVER THE INPUT: true; the input reads as it did. -/
def logbookNoneSpec : ChangeSpec := { name := "logbookNone", fn := fun _ => fun
  | [d1, d2, d3] => { results := [.lit (.bool true)], args := [d1, d2, d3] }
  | _ => none }
def logbookNoneRow : OpenClaim := { program := "ytojbkocmobkddaagreatdoor", sum := "527d8986ad2b3bb2486e0c89ccb5e02b452e74c8be6557a3fb312f7a28d7de7d", func := "agonic/agoniclaw14.LogbookNone", spec := "logbookNone", inPlace := ["internal/bytealg.IndexByteString", "internal/bytealg.CountString", "internal/bytealg.IndexString", "internal/abi.NoEscape", "internal/bytealg.MakeNoZero"], unfollowed := true, recurses := true, named := ["unicode/utf8.first", "unicode/utf8.acceptRanges", "internal/bytealg.MaxLen", "strconv.ErrSyntax", "strconv.ErrRange", "internal/strconv.uint64pow10", "math/bits.deBruijn32tab", "math/bits.deBruijn64tab", "agonic/logbook.kinds"], plainKeys := false, apart := false, laid := [("math/bits.deBruijn32tab", laid_math_bits_deBruijn32tab), ("math/bits.deBruijn64tab", laid_math_bits_deBruijn64tab), ("internal/strconv.uint64pow10", laid_internal_strconv_uint64pow10), ("unicode/utf8.acceptRanges", laid_unicode_utf8_acceptRanges), ("strconv.ErrRange", laid_strconv_ErrRange), ("strconv.ErrSyntax", laid_strconv_ErrSyntax), ("agonic/logbook.kinds", laid_agonic_logbook_kinds), ("unicode/utf8.first", laid_unicode_utf8_first)] }
def LogbookNoneSaid : Prop := logbookNoneRow.holds Tryz.pinned (OpenSpec.ofChange logbookNoneSpec)

/-- ITS FALSE NEIGHBOUR: 'it returns false'. Refute it at one input. -/
def logbookNoneWrong : ChangeSpec := { name := "logbookNone", fn := fun _ => fun
  | [d1, d2, d3] => { results := [.lit (.bool false)], args := [d1, d2, d3] }
  | _ => none }
def LogbookNoneWrongFalsely : Prop := logbookNoneRow.holds Tryz.pinned (OpenSpec.ofChange logbookNoneWrong)

/-- 'agoniclaw14.LogbookKept': WHATEVER THE INPUT: true; the input reads as it did. -/
def logbookKeptSpec : ChangeSpec := { name := "logbookKept", fn := fun _ => fun
  | [d1, d2] => { results := [.lit (.bool true)], args := [d1, d2] }
  | _ => none }
def logbookKeptRow : OpenClaim := { program := "ytojbkocmobkddaagreatdoor", sum := "527d8986ad2b3bb2486e0c89ccb5e02b452e74c8be6557a3fb312f7a28d7de7d", func := "agonic/agoniclaw14.LogbookKept", spec := "logbookKept", inPlace := ["internal/bytealg.CountString", "internal/bytealg.IndexByteString", "internal/bytealg.IndexString", "internal/abi.NoEscape", "internal/bytealg.MakeNoZero"], unfollowed := true, recurses := true, named := ["internal/strconv.uint64pow10", "math/bits.deBruijn32tab", "math/bits.deBruijn64tab", "unicode/utf8.first", "unicode/utf8.acceptRanges", "internal/bytealg.MaxLen", "strconv.ErrSyntax", "strconv.ErrRange", "agonic/logbook.kinds"], plainKeys := false, apart := false, laid := [("math/bits.deBruijn32tab", laid_math_bits_deBruijn32tab), ("math/bits.deBruijn64tab", laid_math_bits_deBruijn64tab), ("internal/strconv.uint64pow10", laid_internal_strconv_uint64pow10), ("unicode/utf8.acceptRanges", laid_unicode_utf8_acceptRanges), ("strconv.ErrRange", laid_strconv_ErrRange), ("strconv.ErrSyntax", laid_strconv_ErrSyntax), ("agonic/logbook.kinds", laid_agonic_logbook_kinds), ("unicode/utf8.first", laid_unicode_utf8_first)] }
def LogbookKeptSaid : Prop := logbookKeptRow.holds Tryz.pinned (OpenSpec.ofChange logbookKeptSpec)

/-- ITS FALSE NEIGHBOUR: 'it returns false'. Refute it at one input. -/
def logbookKeptWrong : ChangeSpec := { name := "logbookKept", fn := fun _ => fun
  | [d1, d2] => { results := [.lit (.bool false)], args := [d1, d2] }
  | _ => none }
def LogbookKeptWrongFalsely : Prop := logbookKeptRow.holds Tryz.pinned (OpenSpec.ofChange logbookKeptWrong)

/-- 'agoniclaw14.LogbookWhere': WHATEVER THE INPUT: true; the input reads as it did. -/
def logbookWhereSpec : ChangeSpec := { name := "logbookWhere", fn := fun _ => fun
  | [d1, d2] => { results := [.lit (.bool true)], args := [d1, d2] }
  | _ => none }
def logbookWhereRow : OpenClaim := { program := "ytojbkocmobkddaagreatdoor", sum := "527d8986ad2b3bb2486e0c89ccb5e02b452e74c8be6557a3fb312f7a28d7de7d", func := "agonic/agoniclaw14.LogbookWhere", spec := "logbookWhere", inPlace := ["internal/bytealg.CountString", "internal/bytealg.IndexByteString", "internal/bytealg.IndexString", "internal/abi.NoEscape", "internal/bytealg.MakeNoZero"], unfollowed := true, recurses := true, named := ["internal/strconv.uint64pow10", "math/bits.deBruijn32tab", "math/bits.deBruijn64tab", "unicode/utf8.first", "unicode/utf8.acceptRanges", "internal/bytealg.MaxLen", "strconv.ErrSyntax", "strconv.ErrRange", "agonic/logbook.kinds"], plainKeys := false, apart := false, laid := [("math/bits.deBruijn32tab", laid_math_bits_deBruijn32tab), ("math/bits.deBruijn64tab", laid_math_bits_deBruijn64tab), ("internal/strconv.uint64pow10", laid_internal_strconv_uint64pow10), ("unicode/utf8.acceptRanges", laid_unicode_utf8_acceptRanges), ("strconv.ErrRange", laid_strconv_ErrRange), ("strconv.ErrSyntax", laid_strconv_ErrSyntax), ("agonic/logbook.kinds", laid_agonic_logbook_kinds), ("unicode/utf8.first", laid_unicode_utf8_first)] }
def LogbookWhereSaid : Prop := logbookWhereRow.holds Tryz.pinned (OpenSpec.ofChange logbookWhereSpec)

/-- ITS FALSE NEIGHBOUR: 'it returns false'. Refute it at one input. -/
def logbookWhereWrong : ChangeSpec := { name := "logbookWhere", fn := fun _ => fun
  | [d1, d2] => { results := [.lit (.bool false)], args := [d1, d2] }
  | _ => none }
def LogbookWhereWrongFalsely : Prop := logbookWhereRow.holds Tryz.pinned (OpenSpec.ofChange logbookWhereWrong)

/-- 'agoniclaw14.LogbookRead': WHATEVER THE INPUT: true; the input reads as it did. -/
def logbookReadSpec : ChangeSpec := { name := "logbookRead", fn := fun _ => fun
  | [d1, d2, d3] => { results := [.lit (.bool true)], args := [d1, d2, d3] }
  | _ => none }
def logbookReadRow : OpenClaim := { program := "ytojbkocmobkddaagreatdoor", sum := "527d8986ad2b3bb2486e0c89ccb5e02b452e74c8be6557a3fb312f7a28d7de7d", func := "agonic/agoniclaw14.LogbookRead", spec := "logbookRead", inPlace := ["internal/bytealg.CountString", "internal/bytealg.IndexByteString", "internal/bytealg.IndexString", "internal/abi.NoEscape", "internal/bytealg.MakeNoZero"], unfollowed := true, recurses := true, named := ["internal/strconv.uint64pow10", "math/bits.deBruijn32tab", "math/bits.deBruijn64tab", "unicode/utf8.first", "unicode/utf8.acceptRanges", "internal/bytealg.MaxLen", "strconv.ErrSyntax", "strconv.ErrRange", "agonic/logbook.kinds"], plainKeys := false, apart := false, laid := [("math/bits.deBruijn32tab", laid_math_bits_deBruijn32tab), ("math/bits.deBruijn64tab", laid_math_bits_deBruijn64tab), ("internal/strconv.uint64pow10", laid_internal_strconv_uint64pow10), ("unicode/utf8.acceptRanges", laid_unicode_utf8_acceptRanges), ("strconv.ErrRange", laid_strconv_ErrRange), ("strconv.ErrSyntax", laid_strconv_ErrSyntax), ("agonic/logbook.kinds", laid_agonic_logbook_kinds), ("unicode/utf8.first", laid_unicode_utf8_first)] }
def LogbookReadSaid : Prop := logbookReadRow.holds Tryz.pinned (OpenSpec.ofChange logbookReadSpec)

/-- ITS FALSE NEIGHBOUR: 'it returns false'. Refute it at one input. -/
def logbookReadWrong : ChangeSpec := { name := "logbookRead", fn := fun _ => fun
  | [d1, d2, d3] => { results := [.lit (.bool false)], args := [d1, d2, d3] }
  | _ => none }
def LogbookReadWrongFalsely : Prop := logbookReadRow.holds Tryz.pinned (OpenSpec.ofChange logbookReadWrong)

/-- 'agoniclaw14.LogbookFiles': WHATEVER THE INPUT: true; the input reads as it did. -/
def logbookFilesSpec : ChangeSpec := { name := "logbookFiles", fn := fun _ => fun
  | [d1, d2] => { results := [.lit (.bool true)], args := [d1, d2] }
  | _ => none }
def logbookFilesRow : OpenClaim := { program := "ytojbkocmobkddaagreatdoor", sum := "527d8986ad2b3bb2486e0c89ccb5e02b452e74c8be6557a3fb312f7a28d7de7d", func := "agonic/agoniclaw14.LogbookFiles", spec := "logbookFiles", inPlace := ["internal/bytealg.IndexByteString", "internal/bytealg.CountString", "internal/bytealg.IndexString", "internal/abi.NoEscape", "internal/bytealg.MakeNoZero"], unfollowed := true, recurses := true, named := ["unicode/utf8.first", "unicode/utf8.acceptRanges", "internal/bytealg.MaxLen", "strconv.ErrSyntax", "strconv.ErrRange", "internal/strconv.uint64pow10", "math/bits.deBruijn32tab", "math/bits.deBruijn64tab", "agonic/logbook.kinds"], plainKeys := false, apart := false, laid := [("math/bits.deBruijn32tab", laid_math_bits_deBruijn32tab), ("math/bits.deBruijn64tab", laid_math_bits_deBruijn64tab), ("internal/strconv.uint64pow10", laid_internal_strconv_uint64pow10), ("unicode/utf8.acceptRanges", laid_unicode_utf8_acceptRanges), ("strconv.ErrRange", laid_strconv_ErrRange), ("strconv.ErrSyntax", laid_strconv_ErrSyntax), ("agonic/logbook.kinds", laid_agonic_logbook_kinds), ("unicode/utf8.first", laid_unicode_utf8_first)] }
def LogbookFilesSaid : Prop := logbookFilesRow.holds Tryz.pinned (OpenSpec.ofChange logbookFilesSpec)

/-- ITS FALSE NEIGHBOUR: 'it returns false'. Refute it at one input. -/
def logbookFilesWrong : ChangeSpec := { name := "logbookFiles", fn := fun _ => fun
  | [d1, d2] => { results := [.lit (.bool false)], args := [d1, d2] }
  | _ => none }
def LogbookFilesWrongFalsely : Prop := logbookFilesRow.holds Tryz.pinned (OpenSpec.ofChange logbookFilesWrong)

/- THE SECOND FORM. 'bulk': how many values and letters a reading holds, each counted each time it is reached (what is shared counts as often as it is met; a slice's spare places count too). A statement '..UptoSaid' is the law's where the arguments, and the package variables that the reading takes, are together of bulk at most 1048576: NARROWER than '..Said'. Prove '..Said' where nothing that the law and all that it calls make is longer than what came in: it says more and counts as full. Else prove '..UptoSaid'. A law counts once. -/
mutual
def uptoBulk {H : Type} : DataW H → Nat
  | .lit (.string bytes) => bytes.length + 1
  | .lit _ => 1
  | .nil => 1
  | .ptr d => uptoBulk d + 1
  | .slice elems spare => uptoBulkAll elems + uptoBulkAll spare + 1
  | .agg parts => uptoBulkAll parts + 1
  | .iface _ d => uptoBulk d + 1
  | .map entries => uptoBulkEntries entries + 1
  | .held _ => 1
def uptoBulkAll {H : Type} : List (DataW H) → Nat
  | [] => 0
  | d :: r => uptoBulk d + uptoBulkAll r
def uptoBulkEntries {H : Type} : List (Lit × DataW H) → Nat
  | [] => 0
  | x :: r => uptoBulkEntry x + uptoBulkEntries r
def uptoBulkEntry {H : Type} : Lit × DataW H → Nat
  | (.string bytes, d) => bytes.length + uptoBulk d + 1
  | (_, d) => uptoBulk d + 1
 end
def uptoSmall : (H : Type) → List (DataW H) → Bool := fun _ ds => decide (uptoBulkAll ds ≤ 1048576)
def OpenSpec.upto (s : _root_.Go.ChangeSpec) : _root_.Go.OpenSpec := { _root_.Go.OpenSpec.ofChange s with cond := some uptoSmall }

/-- 'agoniclaw14.LogbookParts', WHERE WHAT IT READS IS OF BULK AT MOST 1048576: true; the input reads as it did. -/
def logbookPartsUptoRow : OpenClaim := { program := "ytojbkocmobkddaagreatdoor", sum := "527d8986ad2b3bb2486e0c89ccb5e02b452e74c8be6557a3fb312f7a28d7de7d", func := "agonic/agoniclaw14.LogbookParts", spec := "logbookParts", inPlace := ["internal/bytealg.IndexByteString", "internal/bytealg.CountString", "internal/bytealg.IndexString", "internal/abi.NoEscape", "internal/bytealg.MakeNoZero"], unfollowed := true, recurses := true, named := ["unicode/utf8.first", "unicode/utf8.acceptRanges", "internal/bytealg.MaxLen", "strconv.ErrSyntax", "strconv.ErrRange", "internal/strconv.uint64pow10", "math/bits.deBruijn32tab", "math/bits.deBruijn64tab", "agonic/logbook.kinds"], plainKeys := false, apart := false, laid := [("math/bits.deBruijn32tab", laid_math_bits_deBruijn32tab), ("math/bits.deBruijn64tab", laid_math_bits_deBruijn64tab), ("internal/strconv.uint64pow10", laid_internal_strconv_uint64pow10), ("unicode/utf8.acceptRanges", laid_unicode_utf8_acceptRanges), ("strconv.ErrRange", laid_strconv_ErrRange), ("strconv.ErrSyntax", laid_strconv_ErrSyntax), ("agonic/logbook.kinds", laid_agonic_logbook_kinds), ("unicode/utf8.first", laid_unicode_utf8_first)], narrowed := true }
def LogbookPartsUptoSaid : Prop := logbookPartsUptoRow.holds Tryz.pinned (OpenSpec.upto logbookPartsSpec)

/-- 'agoniclaw14.LogbookKnown', WHERE WHAT IT READS IS OF BULK AT MOST 1048576: true; the input reads as it did. -/
def logbookKnownUptoRow : OpenClaim := { program := "ytojbkocmobkddaagreatdoor", sum := "527d8986ad2b3bb2486e0c89ccb5e02b452e74c8be6557a3fb312f7a28d7de7d", func := "agonic/agoniclaw14.LogbookKnown", spec := "logbookKnown", inPlace := ["internal/bytealg.IndexByteString", "internal/bytealg.CountString", "internal/bytealg.IndexString", "internal/abi.NoEscape", "internal/bytealg.MakeNoZero"], unfollowed := true, recurses := true, named := ["unicode/utf8.first", "unicode/utf8.acceptRanges", "internal/bytealg.MaxLen", "strconv.ErrSyntax", "strconv.ErrRange", "internal/strconv.uint64pow10", "math/bits.deBruijn32tab", "math/bits.deBruijn64tab", "agonic/logbook.kinds"], plainKeys := false, apart := false, laid := [("math/bits.deBruijn32tab", laid_math_bits_deBruijn32tab), ("math/bits.deBruijn64tab", laid_math_bits_deBruijn64tab), ("internal/strconv.uint64pow10", laid_internal_strconv_uint64pow10), ("unicode/utf8.acceptRanges", laid_unicode_utf8_acceptRanges), ("strconv.ErrRange", laid_strconv_ErrRange), ("strconv.ErrSyntax", laid_strconv_ErrSyntax), ("agonic/logbook.kinds", laid_agonic_logbook_kinds), ("unicode/utf8.first", laid_unicode_utf8_first)], narrowed := true }
def LogbookKnownUptoSaid : Prop := logbookKnownUptoRow.holds Tryz.pinned (OpenSpec.upto logbookKnownSpec)

/-- 'agoniclaw14.LogbookFewest', WHERE WHAT IT READS IS OF BULK AT MOST 1048576: true; the input reads as it did. -/
def logbookFewestUptoRow : OpenClaim := { program := "ytojbkocmobkddaagreatdoor", sum := "527d8986ad2b3bb2486e0c89ccb5e02b452e74c8be6557a3fb312f7a28d7de7d", func := "agonic/agoniclaw14.LogbookFewest", spec := "logbookFewest", inPlace := ["internal/bytealg.CountString", "internal/bytealg.IndexByteString", "internal/bytealg.IndexString", "internal/abi.NoEscape", "internal/bytealg.MakeNoZero"], unfollowed := true, recurses := true, named := ["internal/strconv.uint64pow10", "math/bits.deBruijn32tab", "math/bits.deBruijn64tab", "unicode/utf8.first", "unicode/utf8.acceptRanges", "internal/bytealg.MaxLen", "strconv.ErrSyntax", "strconv.ErrRange", "agonic/logbook.kinds"], plainKeys := false, apart := false, laid := [("math/bits.deBruijn32tab", laid_math_bits_deBruijn32tab), ("math/bits.deBruijn64tab", laid_math_bits_deBruijn64tab), ("internal/strconv.uint64pow10", laid_internal_strconv_uint64pow10), ("unicode/utf8.acceptRanges", laid_unicode_utf8_acceptRanges), ("strconv.ErrRange", laid_strconv_ErrRange), ("strconv.ErrSyntax", laid_strconv_ErrSyntax), ("agonic/logbook.kinds", laid_agonic_logbook_kinds), ("unicode/utf8.first", laid_unicode_utf8_first)], narrowed := true }
def LogbookFewestUptoSaid : Prop := logbookFewestUptoRow.holds Tryz.pinned (OpenSpec.upto logbookFewestSpec)

/-- 'agoniclaw14.LogbookSwaps', WHERE WHAT IT READS IS OF BULK AT MOST 1048576: true; the input reads as it did. -/
def logbookSwapsUptoRow : OpenClaim := { program := "ytojbkocmobkddaagreatdoor", sum := "527d8986ad2b3bb2486e0c89ccb5e02b452e74c8be6557a3fb312f7a28d7de7d", func := "agonic/agoniclaw14.LogbookSwaps", spec := "logbookSwaps", inPlace := ["internal/bytealg.CountString", "internal/bytealg.IndexByteString", "internal/bytealg.IndexString", "internal/abi.NoEscape", "internal/bytealg.MakeNoZero"], unfollowed := true, recurses := true, named := ["internal/strconv.uint64pow10", "math/bits.deBruijn32tab", "math/bits.deBruijn64tab", "unicode/utf8.first", "unicode/utf8.acceptRanges", "internal/bytealg.MaxLen", "strconv.ErrSyntax", "strconv.ErrRange", "agonic/logbook.kinds"], plainKeys := false, apart := false, laid := [("math/bits.deBruijn32tab", laid_math_bits_deBruijn32tab), ("math/bits.deBruijn64tab", laid_math_bits_deBruijn64tab), ("internal/strconv.uint64pow10", laid_internal_strconv_uint64pow10), ("unicode/utf8.acceptRanges", laid_unicode_utf8_acceptRanges), ("strconv.ErrRange", laid_strconv_ErrRange), ("strconv.ErrSyntax", laid_strconv_ErrSyntax), ("agonic/logbook.kinds", laid_agonic_logbook_kinds), ("unicode/utf8.first", laid_unicode_utf8_first)], narrowed := true }
def LogbookSwapsUptoSaid : Prop := logbookSwapsUptoRow.holds Tryz.pinned (OpenSpec.upto logbookSwapsSpec)

/-- 'agoniclaw14.LogbookLines', WHERE WHAT IT READS IS OF BULK AT MOST 1048576: true; the input reads as it did. -/
def logbookLinesUptoRow : OpenClaim := { program := "ytojbkocmobkddaagreatdoor", sum := "527d8986ad2b3bb2486e0c89ccb5e02b452e74c8be6557a3fb312f7a28d7de7d", func := "agonic/agoniclaw14.LogbookLines", spec := "logbookLines", inPlace := ["internal/bytealg.IndexByteString", "internal/bytealg.CountString", "internal/bytealg.IndexString", "internal/abi.NoEscape", "internal/bytealg.MakeNoZero"], unfollowed := true, recurses := true, named := ["unicode/utf8.first", "unicode/utf8.acceptRanges", "internal/bytealg.MaxLen", "strconv.ErrSyntax", "strconv.ErrRange", "internal/strconv.uint64pow10", "math/bits.deBruijn32tab", "math/bits.deBruijn64tab", "agonic/logbook.kinds"], plainKeys := false, apart := false, laid := [("math/bits.deBruijn32tab", laid_math_bits_deBruijn32tab), ("math/bits.deBruijn64tab", laid_math_bits_deBruijn64tab), ("internal/strconv.uint64pow10", laid_internal_strconv_uint64pow10), ("unicode/utf8.acceptRanges", laid_unicode_utf8_acceptRanges), ("strconv.ErrRange", laid_strconv_ErrRange), ("strconv.ErrSyntax", laid_strconv_ErrSyntax), ("agonic/logbook.kinds", laid_agonic_logbook_kinds), ("unicode/utf8.first", laid_unicode_utf8_first)], narrowed := true }
def LogbookLinesUptoSaid : Prop := logbookLinesUptoRow.holds Tryz.pinned (OpenSpec.upto logbookLinesSpec)

/-- 'agoniclaw14.LogbookNone', WHERE WHAT IT READS IS OF BULK AT MOST 1048576: true; the input reads as it did. -/
def logbookNoneUptoRow : OpenClaim := { program := "ytojbkocmobkddaagreatdoor", sum := "527d8986ad2b3bb2486e0c89ccb5e02b452e74c8be6557a3fb312f7a28d7de7d", func := "agonic/agoniclaw14.LogbookNone", spec := "logbookNone", inPlace := ["internal/bytealg.IndexByteString", "internal/bytealg.CountString", "internal/bytealg.IndexString", "internal/abi.NoEscape", "internal/bytealg.MakeNoZero"], unfollowed := true, recurses := true, named := ["unicode/utf8.first", "unicode/utf8.acceptRanges", "internal/bytealg.MaxLen", "strconv.ErrSyntax", "strconv.ErrRange", "internal/strconv.uint64pow10", "math/bits.deBruijn32tab", "math/bits.deBruijn64tab", "agonic/logbook.kinds"], plainKeys := false, apart := false, laid := [("math/bits.deBruijn32tab", laid_math_bits_deBruijn32tab), ("math/bits.deBruijn64tab", laid_math_bits_deBruijn64tab), ("internal/strconv.uint64pow10", laid_internal_strconv_uint64pow10), ("unicode/utf8.acceptRanges", laid_unicode_utf8_acceptRanges), ("strconv.ErrRange", laid_strconv_ErrRange), ("strconv.ErrSyntax", laid_strconv_ErrSyntax), ("agonic/logbook.kinds", laid_agonic_logbook_kinds), ("unicode/utf8.first", laid_unicode_utf8_first)], narrowed := true }
def LogbookNoneUptoSaid : Prop := logbookNoneUptoRow.holds Tryz.pinned (OpenSpec.upto logbookNoneSpec)

/-- 'agoniclaw14.LogbookKept', WHERE WHAT IT READS IS OF BULK AT MOST 1048576: true; the input reads as it did. -/
def logbookKeptUptoRow : OpenClaim := { program := "ytojbkocmobkddaagreatdoor", sum := "527d8986ad2b3bb2486e0c89ccb5e02b452e74c8be6557a3fb312f7a28d7de7d", func := "agonic/agoniclaw14.LogbookKept", spec := "logbookKept", inPlace := ["internal/bytealg.CountString", "internal/bytealg.IndexByteString", "internal/bytealg.IndexString", "internal/abi.NoEscape", "internal/bytealg.MakeNoZero"], unfollowed := true, recurses := true, named := ["internal/strconv.uint64pow10", "math/bits.deBruijn32tab", "math/bits.deBruijn64tab", "unicode/utf8.first", "unicode/utf8.acceptRanges", "internal/bytealg.MaxLen", "strconv.ErrSyntax", "strconv.ErrRange", "agonic/logbook.kinds"], plainKeys := false, apart := false, laid := [("math/bits.deBruijn32tab", laid_math_bits_deBruijn32tab), ("math/bits.deBruijn64tab", laid_math_bits_deBruijn64tab), ("internal/strconv.uint64pow10", laid_internal_strconv_uint64pow10), ("unicode/utf8.acceptRanges", laid_unicode_utf8_acceptRanges), ("strconv.ErrRange", laid_strconv_ErrRange), ("strconv.ErrSyntax", laid_strconv_ErrSyntax), ("agonic/logbook.kinds", laid_agonic_logbook_kinds), ("unicode/utf8.first", laid_unicode_utf8_first)], narrowed := true }
def LogbookKeptUptoSaid : Prop := logbookKeptUptoRow.holds Tryz.pinned (OpenSpec.upto logbookKeptSpec)

/-- 'agoniclaw14.LogbookWhere', WHERE WHAT IT READS IS OF BULK AT MOST 1048576: true; the input reads as it did. -/
def logbookWhereUptoRow : OpenClaim := { program := "ytojbkocmobkddaagreatdoor", sum := "527d8986ad2b3bb2486e0c89ccb5e02b452e74c8be6557a3fb312f7a28d7de7d", func := "agonic/agoniclaw14.LogbookWhere", spec := "logbookWhere", inPlace := ["internal/bytealg.CountString", "internal/bytealg.IndexByteString", "internal/bytealg.IndexString", "internal/abi.NoEscape", "internal/bytealg.MakeNoZero"], unfollowed := true, recurses := true, named := ["internal/strconv.uint64pow10", "math/bits.deBruijn32tab", "math/bits.deBruijn64tab", "unicode/utf8.first", "unicode/utf8.acceptRanges", "internal/bytealg.MaxLen", "strconv.ErrSyntax", "strconv.ErrRange", "agonic/logbook.kinds"], plainKeys := false, apart := false, laid := [("math/bits.deBruijn32tab", laid_math_bits_deBruijn32tab), ("math/bits.deBruijn64tab", laid_math_bits_deBruijn64tab), ("internal/strconv.uint64pow10", laid_internal_strconv_uint64pow10), ("unicode/utf8.acceptRanges", laid_unicode_utf8_acceptRanges), ("strconv.ErrRange", laid_strconv_ErrRange), ("strconv.ErrSyntax", laid_strconv_ErrSyntax), ("agonic/logbook.kinds", laid_agonic_logbook_kinds), ("unicode/utf8.first", laid_unicode_utf8_first)], narrowed := true }
def LogbookWhereUptoSaid : Prop := logbookWhereUptoRow.holds Tryz.pinned (OpenSpec.upto logbookWhereSpec)

/-- 'agoniclaw14.LogbookRead', WHERE WHAT IT READS IS OF BULK AT MOST 1048576: true; the input reads as it did. -/
def logbookReadUptoRow : OpenClaim := { program := "ytojbkocmobkddaagreatdoor", sum := "527d8986ad2b3bb2486e0c89ccb5e02b452e74c8be6557a3fb312f7a28d7de7d", func := "agonic/agoniclaw14.LogbookRead", spec := "logbookRead", inPlace := ["internal/bytealg.CountString", "internal/bytealg.IndexByteString", "internal/bytealg.IndexString", "internal/abi.NoEscape", "internal/bytealg.MakeNoZero"], unfollowed := true, recurses := true, named := ["internal/strconv.uint64pow10", "math/bits.deBruijn32tab", "math/bits.deBruijn64tab", "unicode/utf8.first", "unicode/utf8.acceptRanges", "internal/bytealg.MaxLen", "strconv.ErrSyntax", "strconv.ErrRange", "agonic/logbook.kinds"], plainKeys := false, apart := false, laid := [("math/bits.deBruijn32tab", laid_math_bits_deBruijn32tab), ("math/bits.deBruijn64tab", laid_math_bits_deBruijn64tab), ("internal/strconv.uint64pow10", laid_internal_strconv_uint64pow10), ("unicode/utf8.acceptRanges", laid_unicode_utf8_acceptRanges), ("strconv.ErrRange", laid_strconv_ErrRange), ("strconv.ErrSyntax", laid_strconv_ErrSyntax), ("agonic/logbook.kinds", laid_agonic_logbook_kinds), ("unicode/utf8.first", laid_unicode_utf8_first)], narrowed := true }
def LogbookReadUptoSaid : Prop := logbookReadUptoRow.holds Tryz.pinned (OpenSpec.upto logbookReadSpec)

/-- 'agoniclaw14.LogbookFiles', WHERE WHAT IT READS IS OF BULK AT MOST 1048576: true; the input reads as it did. -/
def logbookFilesUptoRow : OpenClaim := { program := "ytojbkocmobkddaagreatdoor", sum := "527d8986ad2b3bb2486e0c89ccb5e02b452e74c8be6557a3fb312f7a28d7de7d", func := "agonic/agoniclaw14.LogbookFiles", spec := "logbookFiles", inPlace := ["internal/bytealg.IndexByteString", "internal/bytealg.CountString", "internal/bytealg.IndexString", "internal/abi.NoEscape", "internal/bytealg.MakeNoZero"], unfollowed := true, recurses := true, named := ["unicode/utf8.first", "unicode/utf8.acceptRanges", "internal/bytealg.MaxLen", "strconv.ErrSyntax", "strconv.ErrRange", "internal/strconv.uint64pow10", "math/bits.deBruijn32tab", "math/bits.deBruijn64tab", "agonic/logbook.kinds"], plainKeys := false, apart := false, laid := [("math/bits.deBruijn32tab", laid_math_bits_deBruijn32tab), ("math/bits.deBruijn64tab", laid_math_bits_deBruijn64tab), ("internal/strconv.uint64pow10", laid_internal_strconv_uint64pow10), ("unicode/utf8.acceptRanges", laid_unicode_utf8_acceptRanges), ("strconv.ErrRange", laid_strconv_ErrRange), ("strconv.ErrSyntax", laid_strconv_ErrSyntax), ("agonic/logbook.kinds", laid_agonic_logbook_kinds), ("unicode/utf8.first", laid_unicode_utf8_first)], narrowed := true }
def LogbookFilesUptoSaid : Prop := logbookFilesUptoRow.holds Tryz.pinned (OpenSpec.upto logbookFilesSpec)

end Rows
end Go.Proofs.YtojbkocmobkddaaGreatDoor
