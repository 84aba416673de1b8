/-
  NARROWER THAN 'FOR EVERY INPUT', by the rows' own cells (each row's printed sentence says how): FnExactReleaseGet: laid · FnReleaseText: laid · FnReleaseOf: laid · FnClientNew: laid · FnExactFileGet: laid · FnExactClientOk: laid · FnExactClientRise: laid · FnExactClientTake: laid · FnExactClientFall: laid · FnFileGet: laid · FnClientRise: laid · FnClientFile: laid · FnClientTake: laid · FnClientFall: laid.
  DERIVED. THE GIVEN ROWS OF THIS SEAT. 14 by the template 'for every input the law returns true; each argument reads behind the call as it read before'; 0 by the template 'total and deterministic' (their statements: YtjfkeknnjjlepaaGreatDoorTotals.lean).
  GIVEN WITH THE SEED: the statements are not yours to turn. If you find one false, say at which input.
  Laid BY PROGRAM, IN A SANDBOX (cutbox-rows.mjs): the forced cells as the released guide's own fill.sh prints them over the translation 77a4669a82b501d3… (all of the seat's roots in one cut). By AI agents, Wed Nov 11 2026. No macro, syntax, notation, axiom, sorry.
-/
import Derived.Test.YtjfkeknnjjlepaaGreatDoorChecked
import GoSem.PinnedTables
import GoSem.Claim
import GoSem.ClaimJoined
import GoSem.ClaimMapViews
import Derived.JoinedTies
import Derived.KernelRfl
namespace Go.Proofs.YtjfkeknnjjlepaaGreatDoor
/- THE CELL 'sum', in the pinned program and in every row, IS THE sha256 OF THE DUMP (.gsa) THAT YtjfkeknnjjlepaaGreatDoorProg.lean LOADS. Nothing in Lean hashes anything: it is a label: what it is worth is what the hold of that sum in a sandbox is worth. -/
noncomputable def Tryz.pinned : Pinned := { name := "ytjfkeknnjjlepaagreatdoor", sum := "77a4669a82b501d3745de48f83bacd39b4b85e60d6b76bb2002e11d4cfcebc8d", checked := Tryz.checked }
namespace Rows
def none {H : Type} : Left H := { results := [], args := [] }

/- WHAT THE LISTED PACKAGE-LEVEL VARIABLES READ AS WHEN THE CALL BEGINS. Each datum BY PROGRAM (the guide's laid-datum.mjs) off the statement by which the dump's own 'gosem.cut.vars' lays the variable. In a bare row this is a premise. The card (YtjfkeknnjjlepaaGreatDoorCards.lean) ties it to the program's text. -/
def laid_math_bits_deBruijn32tab {H : Type} : DataW H := .agg [.lit (.int .u8 0), .lit (.int .u8 1), .lit (.int .u8 28), .lit (.int .u8 2), .lit (.int .u8 29), .lit (.int .u8 14), .lit (.int .u8 24), .lit (.int .u8 3), .lit (.int .u8 30), .lit (.int .u8 22), .lit (.int .u8 20), .lit (.int .u8 15), .lit (.int .u8 25), .lit (.int .u8 17), .lit (.int .u8 4), .lit (.int .u8 8), .lit (.int .u8 31), .lit (.int .u8 27), .lit (.int .u8 13), .lit (.int .u8 23), .lit (.int .u8 21), .lit (.int .u8 19), .lit (.int .u8 16), .lit (.int .u8 7), .lit (.int .u8 26), .lit (.int .u8 12), .lit (.int .u8 18), .lit (.int .u8 6), .lit (.int .u8 11), .lit (.int .u8 5), .lit (.int .u8 10), .lit (.int .u8 9)]
def laid_math_bits_deBruijn64tab {H : Type} : DataW H := .agg [.lit (.int .u8 0), .lit (.int .u8 1), .lit (.int .u8 56), .lit (.int .u8 2), .lit (.int .u8 57), .lit (.int .u8 49), .lit (.int .u8 28), .lit (.int .u8 3), .lit (.int .u8 61), .lit (.int .u8 58), .lit (.int .u8 42), .lit (.int .u8 50), .lit (.int .u8 38), .lit (.int .u8 29), .lit (.int .u8 17), .lit (.int .u8 4), .lit (.int .u8 62), .lit (.int .u8 47), .lit (.int .u8 59), .lit (.int .u8 36), .lit (.int .u8 45), .lit (.int .u8 43), .lit (.int .u8 51), .lit (.int .u8 22), .lit (.int .u8 53), .lit (.int .u8 39), .lit (.int .u8 33), .lit (.int .u8 30), .lit (.int .u8 24), .lit (.int .u8 18), .lit (.int .u8 12), .lit (.int .u8 5), .lit (.int .u8 63), .lit (.int .u8 55), .lit (.int .u8 48), .lit (.int .u8 27), .lit (.int .u8 60), .lit (.int .u8 41), .lit (.int .u8 37), .lit (.int .u8 16), .lit (.int .u8 46), .lit (.int .u8 35), .lit (.int .u8 44), .lit (.int .u8 21), .lit (.int .u8 52), .lit (.int .u8 32), .lit (.int .u8 23), .lit (.int .u8 11), .lit (.int .u8 54), .lit (.int .u8 26), .lit (.int .u8 40), .lit (.int .u8 15), .lit (.int .u8 34), .lit (.int .u8 20), .lit (.int .u8 31), .lit (.int .u8 10), .lit (.int .u8 25), .lit (.int .u8 14), .lit (.int .u8 19), .lit (.int .u8 9), .lit (.int .u8 13), .lit (.int .u8 8), .lit (.int .u8 7), .lit (.int .u8 6)]
def laid_internal_strconv_uint64pow10 {H : Type} : DataW H := .agg [.lit (.int .u64 1), .lit (.int .u64 10), .lit (.int .u64 100), .lit (.int .u64 1000), .lit (.int .u64 10000), .lit (.int .u64 100000), .lit (.int .u64 1000000), .lit (.int .u64 10000000), .lit (.int .u64 100000000), .lit (.int .u64 1000000000), .lit (.int .u64 10000000000), .lit (.int .u64 100000000000), .lit (.int .u64 1000000000000), .lit (.int .u64 10000000000000), .lit (.int .u64 100000000000000), .lit (.int .u64 1000000000000000), .lit (.int .u64 10000000000000000), .lit (.int .u64 100000000000000000), .lit (.int .u64 1000000000000000000), .lit (.int .u64 10000000000000000000)]
def laid_unicode_utf8_acceptRanges {H : Type} : DataW H := .agg [.agg [.lit (.int .u8 128), .lit (.int .u8 191)], .agg [.lit (.int .u8 160), .lit (.int .u8 191)], .agg [.lit (.int .u8 128), .lit (.int .u8 159)], .agg [.lit (.int .u8 144), .lit (.int .u8 191)], .agg [.lit (.int .u8 128), .lit (.int .u8 143)], .agg [.lit (.int .u8 0), .lit (.int .u8 0)], .agg [.lit (.int .u8 0), .lit (.int .u8 0)], .agg [.lit (.int .u8 0), .lit (.int .u8 0)], .agg [.lit (.int .u8 0), .lit (.int .u8 0)], .agg [.lit (.int .u8 0), .lit (.int .u8 0)], .agg [.lit (.int .u8 0), .lit (.int .u8 0)], .agg [.lit (.int .u8 0), .lit (.int .u8 0)], .agg [.lit (.int .u8 0), .lit (.int .u8 0)], .agg [.lit (.int .u8 0), .lit (.int .u8 0)], .agg [.lit (.int .u8 0), .lit (.int .u8 0)], .agg [.lit (.int .u8 0), .lit (.int .u8 0)]]
def laid_strconv_ErrRange {H : Type} : DataW H := .iface "*errors.errorString" (.ptr (.agg [.lit (.string [118, 97, 108, 117, 101, 32, 111, 117, 116, 32, 111, 102, 32, 114, 97, 110, 103, 101])]))
def laid_strconv_ErrSyntax {H : Type} : DataW H := .iface "*errors.errorString" (.ptr (.agg [.lit (.string [105, 110, 118, 97, 108, 105, 100, 32, 115, 121, 110, 116, 97, 120])]))
/-- One of Go's own tables, pinned by name: the form's constant. -/
def laid_unicode_utf8_first : DataW Unit := Go.Pinned.utf8First
def laid_loop_example_medlar_impl_shaStep {H : Type} : DataW H := .agg [.lit (.int .u32 1116352408), .lit (.int .u32 1899447441), .lit (.int .u32 3049323471), .lit (.int .u32 3921009573), .lit (.int .u32 961987163), .lit (.int .u32 1508970993), .lit (.int .u32 2453635748), .lit (.int .u32 2870763221), .lit (.int .u32 3624381080), .lit (.int .u32 310598401), .lit (.int .u32 607225278), .lit (.int .u32 1426881987), .lit (.int .u32 1925078388), .lit (.int .u32 2162078206), .lit (.int .u32 2614888103), .lit (.int .u32 3248222580), .lit (.int .u32 3835390401), .lit (.int .u32 4022224774), .lit (.int .u32 264347078), .lit (.int .u32 604807628), .lit (.int .u32 770255983), .lit (.int .u32 1249150122), .lit (.int .u32 1555081692), .lit (.int .u32 1996064986), .lit (.int .u32 2554220882), .lit (.int .u32 2821834349), .lit (.int .u32 2952996808), .lit (.int .u32 3210313671), .lit (.int .u32 3336571891), .lit (.int .u32 3584528711), .lit (.int .u32 113926993), .lit (.int .u32 338241895), .lit (.int .u32 666307205), .lit (.int .u32 773529912), .lit (.int .u32 1294757372), .lit (.int .u32 1396182291), .lit (.int .u32 1695183700), .lit (.int .u32 1986661051), .lit (.int .u32 2177026350), .lit (.int .u32 2456956037), .lit (.int .u32 2730485921), .lit (.int .u32 2820302411), .lit (.int .u32 3259730800), .lit (.int .u32 3345764771), .lit (.int .u32 3516065817), .lit (.int .u32 3600352804), .lit (.int .u32 4094571909), .lit (.int .u32 275423344), .lit (.int .u32 430227734), .lit (.int .u32 506948616), .lit (.int .u32 659060556), .lit (.int .u32 883997877), .lit (.int .u32 958139571), .lit (.int .u32 1322822218), .lit (.int .u32 1537002063), .lit (.int .u32 1747873779), .lit (.int .u32 1955562222), .lit (.int .u32 2024104815), .lit (.int .u32 2227730452), .lit (.int .u32 2361852424), .lit (.int .u32 2428436474), .lit (.int .u32 2756734187), .lit (.int .u32 3204031479), .lit (.int .u32 3329325298)]

/-- 'laws.FnExactReleaseGet': WHATEVER THE INPUT: true; the input reads as it did. -/
def fnExactReleaseGetSpec : ChangeSpec := { name := "fnExactReleaseGet", fn := fun _ => fun
  | [d] => { results := [.lit (.bool true)], args := [d] }
  | _ => none }
def fnExactReleaseGetRow : OpenClaim := { program := "ytjfkeknnjjlepaagreatdoor", sum := "77a4669a82b501d3745de48f83bacd39b4b85e60d6b76bb2002e11d4cfcebc8d", func := "loop.example/medlar/laws.FnExactReleaseGet", spec := "fnExactReleaseGet", inPlace := ["internal/bytealg.CountString", "internal/bytealg.IndexByteString", "internal/bytealg.IndexString", "internal/abi.NoEscape", "internal/bytealg.MakeNoZero"], unfollowed := true, recurses := true, named := ["unicode/utf8.first", "unicode/utf8.acceptRanges", "internal/bytealg.MaxLen", "strconv.ErrSyntax", "strconv.ErrRange", "internal/strconv.uint64pow10", "math/bits.deBruijn32tab", "math/bits.deBruijn64tab"], apart := false, laid := [("math/bits.deBruijn32tab", laid_math_bits_deBruijn32tab), ("math/bits.deBruijn64tab", laid_math_bits_deBruijn64tab), ("internal/strconv.uint64pow10", laid_internal_strconv_uint64pow10), ("unicode/utf8.acceptRanges", laid_unicode_utf8_acceptRanges), ("strconv.ErrRange", laid_strconv_ErrRange), ("strconv.ErrSyntax", laid_strconv_ErrSyntax), ("unicode/utf8.first", laid_unicode_utf8_first)] }
def FnExactReleaseGetSaid : Prop := fnExactReleaseGetRow.holds Tryz.pinned (OpenSpec.ofChange fnExactReleaseGetSpec)

/-- ITS FALSE NEIGHBOUR: 'it returns false'. Refute it at one input. -/
def fnExactReleaseGetWrong : ChangeSpec := { name := "fnExactReleaseGet", fn := fun _ => fun
  | [d] => { results := [.lit (.bool false)], args := [d] }
  | _ => none }
def FnExactReleaseGetWrongFalsely : Prop := fnExactReleaseGetRow.holds Tryz.pinned (OpenSpec.ofChange fnExactReleaseGetWrong)

/-- 'laws.FnReleaseText': WHATEVER THE INPUT: true; the input reads as it did. -/
def fnReleaseTextSpec : ChangeSpec := { name := "fnReleaseText", fn := fun _ => fun
  | [d1, d2] => { results := [.lit (.bool true)], args := [d1, d2] }
  | _ => none }
def fnReleaseTextRow : OpenClaim := { program := "ytjfkeknnjjlepaagreatdoor", sum := "77a4669a82b501d3745de48f83bacd39b4b85e60d6b76bb2002e11d4cfcebc8d", func := "loop.example/medlar/laws.FnReleaseText", spec := "fnReleaseText", inPlace := ["internal/bytealg.IndexByteString", "internal/bytealg.IndexString", "internal/abi.NoEscape", "internal/bytealg.MakeNoZero", "internal/bytealg.CountString"], unfollowed := true, recurses := true, named := ["unicode/utf8.first", "unicode/utf8.acceptRanges", "internal/strconv.uint64pow10", "math/bits.deBruijn32tab", "math/bits.deBruijn64tab", "internal/bytealg.MaxLen", "strconv.ErrSyntax", "strconv.ErrRange"], apart := false, laid := [("math/bits.deBruijn32tab", laid_math_bits_deBruijn32tab), ("math/bits.deBruijn64tab", laid_math_bits_deBruijn64tab), ("internal/strconv.uint64pow10", laid_internal_strconv_uint64pow10), ("unicode/utf8.acceptRanges", laid_unicode_utf8_acceptRanges), ("strconv.ErrRange", laid_strconv_ErrRange), ("strconv.ErrSyntax", laid_strconv_ErrSyntax), ("unicode/utf8.first", laid_unicode_utf8_first)] }
def FnReleaseTextSaid : Prop := fnReleaseTextRow.holds Tryz.pinned (OpenSpec.ofChange fnReleaseTextSpec)

/-- ITS FALSE NEIGHBOUR: 'it returns false'. Refute it at one input. -/
def fnReleaseTextWrong : ChangeSpec := { name := "fnReleaseText", fn := fun _ => fun
  | [d1, d2] => { results := [.lit (.bool false)], args := [d1, d2] }
  | _ => none }
def FnReleaseTextWrongFalsely : Prop := fnReleaseTextRow.holds Tryz.pinned (OpenSpec.ofChange fnReleaseTextWrong)

/-- 'laws.FnReleaseOf': WHATEVER THE INPUT: true; the input reads as it did. -/
def fnReleaseOfSpec : ChangeSpec := { name := "fnReleaseOf", vars := ["loop.example/medlar/impl.shaStep"], fn := fun _ => fun
  | [d, g1] => { results := [.lit (.bool true)], args := [d], vars := [g1] }
  | _ => none }
def fnReleaseOfRow : OpenClaim := { program := "ytjfkeknnjjlepaagreatdoor", sum := "77a4669a82b501d3745de48f83bacd39b4b85e60d6b76bb2002e11d4cfcebc8d", func := "loop.example/medlar/laws.FnReleaseOf", spec := "fnReleaseOf", inPlace := ["internal/abi.NoEscape", "internal/bytealg.MakeNoZero", "internal/bytealg.IndexByteString", "internal/bytealg.IndexString", "internal/bytealg.CountString"], unfollowed := true, recurses := true, named := ["loop.example/medlar/impl.shaStep", "internal/strconv.uint64pow10", "math/bits.deBruijn32tab", "math/bits.deBruijn64tab", "unicode/utf8.first", "unicode/utf8.acceptRanges", "internal/bytealg.MaxLen", "strconv.ErrSyntax", "strconv.ErrRange"], apart := false, laid := [("math/bits.deBruijn32tab", laid_math_bits_deBruijn32tab), ("math/bits.deBruijn64tab", laid_math_bits_deBruijn64tab), ("internal/strconv.uint64pow10", laid_internal_strconv_uint64pow10), ("unicode/utf8.acceptRanges", laid_unicode_utf8_acceptRanges), ("strconv.ErrRange", laid_strconv_ErrRange), ("strconv.ErrSyntax", laid_strconv_ErrSyntax), ("loop.example/medlar/impl.shaStep", laid_loop_example_medlar_impl_shaStep), ("unicode/utf8.first", laid_unicode_utf8_first)] }
def FnReleaseOfSaid : Prop := fnReleaseOfRow.holds Tryz.pinned (OpenSpec.ofChange fnReleaseOfSpec)

/-- ITS FALSE NEIGHBOUR: 'it returns false'. Refute it at one input. -/
def fnReleaseOfWrong : ChangeSpec := { name := "fnReleaseOf", vars := ["loop.example/medlar/impl.shaStep"], fn := fun _ => fun
  | [d, g1] => { results := [.lit (.bool false)], args := [d], vars := [g1] }
  | _ => none }
def FnReleaseOfWrongFalsely : Prop := fnReleaseOfRow.holds Tryz.pinned (OpenSpec.ofChange fnReleaseOfWrong)

/-- 'laws.FnClientNew': WHATEVER THE INPUT: true; the input reads as it did. -/
def fnClientNewSpec : ChangeSpec := { name := "fnClientNew", vars := ["loop.example/medlar/impl.shaStep"], fn := fun _ => fun
  | [d, g1] => { results := [.lit (.bool true)], args := [d], vars := [g1] }
  | _ => none }
def fnClientNewRow : OpenClaim := { program := "ytjfkeknnjjlepaagreatdoor", sum := "77a4669a82b501d3745de48f83bacd39b4b85e60d6b76bb2002e11d4cfcebc8d", func := "loop.example/medlar/laws.FnClientNew", spec := "fnClientNew", inPlace := ["internal/bytealg.IndexByteString", "internal/bytealg.CountString", "internal/bytealg.IndexString", "internal/abi.NoEscape", "internal/bytealg.MakeNoZero"], unfollowed := true, recurses := true, named := ["unicode/utf8.first", "unicode/utf8.acceptRanges", "internal/bytealg.MaxLen", "strconv.ErrSyntax", "strconv.ErrRange", "internal/strconv.uint64pow10", "math/bits.deBruijn32tab", "math/bits.deBruijn64tab", "loop.example/medlar/impl.shaStep"], apart := false, laid := [("math/bits.deBruijn32tab", laid_math_bits_deBruijn32tab), ("math/bits.deBruijn64tab", laid_math_bits_deBruijn64tab), ("internal/strconv.uint64pow10", laid_internal_strconv_uint64pow10), ("unicode/utf8.acceptRanges", laid_unicode_utf8_acceptRanges), ("strconv.ErrRange", laid_strconv_ErrRange), ("strconv.ErrSyntax", laid_strconv_ErrSyntax), ("loop.example/medlar/impl.shaStep", laid_loop_example_medlar_impl_shaStep), ("unicode/utf8.first", laid_unicode_utf8_first)] }
def FnClientNewSaid : Prop := fnClientNewRow.holds Tryz.pinned (OpenSpec.ofChange fnClientNewSpec)

/-- ITS FALSE NEIGHBOUR: 'it returns false'. Refute it at one input. -/
def fnClientNewWrong : ChangeSpec := { name := "fnClientNew", vars := ["loop.example/medlar/impl.shaStep"], fn := fun _ => fun
  | [d, g1] => { results := [.lit (.bool false)], args := [d], vars := [g1] }
  | _ => none }
def FnClientNewWrongFalsely : Prop := fnClientNewRow.holds Tryz.pinned (OpenSpec.ofChange fnClientNewWrong)

/-- 'laws.FnExactFileGet': WHATEVER THE INPUT: true; the input reads as it did. -/
def fnExactFileGetSpec : ChangeSpec := { name := "fnExactFileGet", vars := ["loop.example/medlar/impl.shaStep"], fn := fun _ => fun
  | [d1, d2, g1] => { results := [.lit (.bool true)], args := [d1, d2], vars := [g1] }
  | _ => none }
def fnExactFileGetRow : OpenClaim := { program := "ytjfkeknnjjlepaagreatdoor", sum := "77a4669a82b501d3745de48f83bacd39b4b85e60d6b76bb2002e11d4cfcebc8d", func := "loop.example/medlar/laws.FnExactFileGet", spec := "fnExactFileGet", inPlace := ["internal/bytealg.IndexByteString", "internal/bytealg.CountString", "internal/bytealg.IndexString", "internal/abi.NoEscape", "internal/bytealg.MakeNoZero"], unfollowed := true, recurses := true, named := ["unicode/utf8.first", "unicode/utf8.acceptRanges", "internal/bytealg.MaxLen", "strconv.ErrSyntax", "strconv.ErrRange", "internal/strconv.uint64pow10", "math/bits.deBruijn32tab", "math/bits.deBruijn64tab", "loop.example/medlar/impl.shaStep"], apart := false, laid := [("math/bits.deBruijn32tab", laid_math_bits_deBruijn32tab), ("math/bits.deBruijn64tab", laid_math_bits_deBruijn64tab), ("internal/strconv.uint64pow10", laid_internal_strconv_uint64pow10), ("unicode/utf8.acceptRanges", laid_unicode_utf8_acceptRanges), ("strconv.ErrRange", laid_strconv_ErrRange), ("strconv.ErrSyntax", laid_strconv_ErrSyntax), ("loop.example/medlar/impl.shaStep", laid_loop_example_medlar_impl_shaStep), ("unicode/utf8.first", laid_unicode_utf8_first)] }
def FnExactFileGetSaid : Prop := fnExactFileGetRow.holds Tryz.pinned (OpenSpec.ofChange fnExactFileGetSpec)

/-- ITS FALSE NEIGHBOUR: 'it returns false'. Refute it at one input. -/
def fnExactFileGetWrong : ChangeSpec := { name := "fnExactFileGet", vars := ["loop.example/medlar/impl.shaStep"], fn := fun _ => fun
  | [d1, d2, g1] => { results := [.lit (.bool false)], args := [d1, d2], vars := [g1] }
  | _ => none }
def FnExactFileGetWrongFalsely : Prop := fnExactFileGetRow.holds Tryz.pinned (OpenSpec.ofChange fnExactFileGetWrong)

/-- 'laws.FnExactClientOk': WHATEVER THE INPUT: true; the input reads as it did. -/
def fnExactClientOkSpec : ChangeSpec := { name := "fnExactClientOk", vars := ["loop.example/medlar/impl.shaStep"], fn := fun _ => fun
  | [d, g1] => { results := [.lit (.bool true)], args := [d], vars := [g1] }
  | _ => none }
def fnExactClientOkRow : OpenClaim := { program := "ytjfkeknnjjlepaagreatdoor", sum := "77a4669a82b501d3745de48f83bacd39b4b85e60d6b76bb2002e11d4cfcebc8d", func := "loop.example/medlar/laws.FnExactClientOk", spec := "fnExactClientOk", inPlace := ["internal/bytealg.IndexByteString", "internal/bytealg.CountString", "internal/bytealg.IndexString", "internal/abi.NoEscape", "internal/bytealg.MakeNoZero"], unfollowed := true, recurses := true, named := ["unicode/utf8.first", "unicode/utf8.acceptRanges", "internal/bytealg.MaxLen", "strconv.ErrSyntax", "strconv.ErrRange", "internal/strconv.uint64pow10", "math/bits.deBruijn32tab", "math/bits.deBruijn64tab", "loop.example/medlar/impl.shaStep"], apart := false, laid := [("math/bits.deBruijn32tab", laid_math_bits_deBruijn32tab), ("math/bits.deBruijn64tab", laid_math_bits_deBruijn64tab), ("internal/strconv.uint64pow10", laid_internal_strconv_uint64pow10), ("unicode/utf8.acceptRanges", laid_unicode_utf8_acceptRanges), ("strconv.ErrRange", laid_strconv_ErrRange), ("strconv.ErrSyntax", laid_strconv_ErrSyntax), ("loop.example/medlar/impl.shaStep", laid_loop_example_medlar_impl_shaStep), ("unicode/utf8.first", laid_unicode_utf8_first)] }
def FnExactClientOkSaid : Prop := fnExactClientOkRow.holds Tryz.pinned (OpenSpec.ofChange fnExactClientOkSpec)

/-- ITS FALSE NEIGHBOUR: 'it returns false'. Refute it at one input. -/
def fnExactClientOkWrong : ChangeSpec := { name := "fnExactClientOk", vars := ["loop.example/medlar/impl.shaStep"], fn := fun _ => fun
  | [d, g1] => { results := [.lit (.bool false)], args := [d], vars := [g1] }
  | _ => none }
def FnExactClientOkWrongFalsely : Prop := fnExactClientOkRow.holds Tryz.pinned (OpenSpec.ofChange fnExactClientOkWrong)

/-- 'laws.FnExactClientRise': WHATEVER THE INPUT: true; the input reads as it did. -/
def fnExactClientRiseSpec : ChangeSpec := { name := "fnExactClientRise", vars := ["loop.example/medlar/impl.shaStep"], fn := fun _ => fun
  | [d, g1] => { results := [.lit (.bool true)], args := [d], vars := [g1] }
  | _ => none }
def fnExactClientRiseRow : OpenClaim := { program := "ytjfkeknnjjlepaagreatdoor", sum := "77a4669a82b501d3745de48f83bacd39b4b85e60d6b76bb2002e11d4cfcebc8d", func := "loop.example/medlar/laws.FnExactClientRise", spec := "fnExactClientRise", inPlace := ["internal/bytealg.IndexByteString", "internal/bytealg.CountString", "internal/bytealg.IndexString", "internal/abi.NoEscape", "internal/bytealg.MakeNoZero"], unfollowed := true, recurses := true, named := ["unicode/utf8.first", "unicode/utf8.acceptRanges", "internal/bytealg.MaxLen", "strconv.ErrSyntax", "strconv.ErrRange", "internal/strconv.uint64pow10", "math/bits.deBruijn32tab", "math/bits.deBruijn64tab", "loop.example/medlar/impl.shaStep"], apart := false, laid := [("math/bits.deBruijn32tab", laid_math_bits_deBruijn32tab), ("math/bits.deBruijn64tab", laid_math_bits_deBruijn64tab), ("internal/strconv.uint64pow10", laid_internal_strconv_uint64pow10), ("unicode/utf8.acceptRanges", laid_unicode_utf8_acceptRanges), ("strconv.ErrRange", laid_strconv_ErrRange), ("strconv.ErrSyntax", laid_strconv_ErrSyntax), ("loop.example/medlar/impl.shaStep", laid_loop_example_medlar_impl_shaStep), ("unicode/utf8.first", laid_unicode_utf8_first)] }
def FnExactClientRiseSaid : Prop := fnExactClientRiseRow.holds Tryz.pinned (OpenSpec.ofChange fnExactClientRiseSpec)

/-- ITS FALSE NEIGHBOUR: 'it returns false'. Refute it at one input. -/
def fnExactClientRiseWrong : ChangeSpec := { name := "fnExactClientRise", vars := ["loop.example/medlar/impl.shaStep"], fn := fun _ => fun
  | [d, g1] => { results := [.lit (.bool false)], args := [d], vars := [g1] }
  | _ => none }
def FnExactClientRiseWrongFalsely : Prop := fnExactClientRiseRow.holds Tryz.pinned (OpenSpec.ofChange fnExactClientRiseWrong)

/-- 'laws.FnExactClientTake': WHATEVER THE INPUT: true; the input reads as it did. -/
def fnExactClientTakeSpec : ChangeSpec := { name := "fnExactClientTake", vars := ["loop.example/medlar/impl.shaStep"], fn := fun _ => fun
  | [d1, d2, g1] => { results := [.lit (.bool true)], args := [d1, d2], vars := [g1] }
  | _ => none }
def fnExactClientTakeRow : OpenClaim := { program := "ytjfkeknnjjlepaagreatdoor", sum := "77a4669a82b501d3745de48f83bacd39b4b85e60d6b76bb2002e11d4cfcebc8d", func := "loop.example/medlar/laws.FnExactClientTake", spec := "fnExactClientTake", inPlace := ["internal/bytealg.IndexByteString", "internal/bytealg.CountString", "internal/bytealg.IndexString", "internal/abi.NoEscape", "internal/bytealg.MakeNoZero"], unfollowed := true, recurses := true, named := ["unicode/utf8.first", "unicode/utf8.acceptRanges", "internal/bytealg.MaxLen", "strconv.ErrSyntax", "strconv.ErrRange", "internal/strconv.uint64pow10", "math/bits.deBruijn32tab", "math/bits.deBruijn64tab", "loop.example/medlar/impl.shaStep"], apart := false, laid := [("math/bits.deBruijn32tab", laid_math_bits_deBruijn32tab), ("math/bits.deBruijn64tab", laid_math_bits_deBruijn64tab), ("internal/strconv.uint64pow10", laid_internal_strconv_uint64pow10), ("unicode/utf8.acceptRanges", laid_unicode_utf8_acceptRanges), ("strconv.ErrRange", laid_strconv_ErrRange), ("strconv.ErrSyntax", laid_strconv_ErrSyntax), ("loop.example/medlar/impl.shaStep", laid_loop_example_medlar_impl_shaStep), ("unicode/utf8.first", laid_unicode_utf8_first)] }
def FnExactClientTakeSaid : Prop := fnExactClientTakeRow.holds Tryz.pinned (OpenSpec.ofChange fnExactClientTakeSpec)

/-- ITS FALSE NEIGHBOUR: 'it returns false'. Refute it at one input. -/
def fnExactClientTakeWrong : ChangeSpec := { name := "fnExactClientTake", vars := ["loop.example/medlar/impl.shaStep"], fn := fun _ => fun
  | [d1, d2, g1] => { results := [.lit (.bool false)], args := [d1, d2], vars := [g1] }
  | _ => none }
def FnExactClientTakeWrongFalsely : Prop := fnExactClientTakeRow.holds Tryz.pinned (OpenSpec.ofChange fnExactClientTakeWrong)

/-- 'laws.FnExactClientFall': WHATEVER THE INPUT: true; the input reads as it did. -/
def fnExactClientFallSpec : ChangeSpec := { name := "fnExactClientFall", vars := ["loop.example/medlar/impl.shaStep"], fn := fun _ => fun
  | [d1, d2, d3, g1] => { results := [.lit (.bool true)], args := [d1, d2, d3], vars := [g1] }
  | _ => none }
def fnExactClientFallRow : OpenClaim := { program := "ytjfkeknnjjlepaagreatdoor", sum := "77a4669a82b501d3745de48f83bacd39b4b85e60d6b76bb2002e11d4cfcebc8d", func := "loop.example/medlar/laws.FnExactClientFall", spec := "fnExactClientFall", inPlace := ["internal/bytealg.IndexByteString", "internal/bytealg.CountString", "internal/bytealg.IndexString", "internal/abi.NoEscape", "internal/bytealg.MakeNoZero"], unfollowed := true, recurses := true, named := ["unicode/utf8.first", "unicode/utf8.acceptRanges", "internal/bytealg.MaxLen", "strconv.ErrSyntax", "strconv.ErrRange", "internal/strconv.uint64pow10", "math/bits.deBruijn32tab", "math/bits.deBruijn64tab", "loop.example/medlar/impl.shaStep"], apart := false, laid := [("math/bits.deBruijn32tab", laid_math_bits_deBruijn32tab), ("math/bits.deBruijn64tab", laid_math_bits_deBruijn64tab), ("internal/strconv.uint64pow10", laid_internal_strconv_uint64pow10), ("unicode/utf8.acceptRanges", laid_unicode_utf8_acceptRanges), ("strconv.ErrRange", laid_strconv_ErrRange), ("strconv.ErrSyntax", laid_strconv_ErrSyntax), ("loop.example/medlar/impl.shaStep", laid_loop_example_medlar_impl_shaStep), ("unicode/utf8.first", laid_unicode_utf8_first)] }
def FnExactClientFallSaid : Prop := fnExactClientFallRow.holds Tryz.pinned (OpenSpec.ofChange fnExactClientFallSpec)

/-- ITS FALSE NEIGHBOUR: 'it returns false'. Refute it at one input. -/
def fnExactClientFallWrong : ChangeSpec := { name := "fnExactClientFall", vars := ["loop.example/medlar/impl.shaStep"], fn := fun _ => fun
  | [d1, d2, d3, g1] => { results := [.lit (.bool false)], args := [d1, d2, d3], vars := [g1] }
  | _ => none }
def FnExactClientFallWrongFalsely : Prop := fnExactClientFallRow.holds Tryz.pinned (OpenSpec.ofChange fnExactClientFallWrong)

/-- 'laws.FnFileGet': WHATEVER THE INPUT: true; the input reads as it did. -/
def fnFileGetSpec : ChangeSpec := { name := "fnFileGet", vars := ["loop.example/medlar/impl.shaStep"], fn := fun _ => fun
  | [d, g1] => { results := [.lit (.bool true)], args := [d], vars := [g1] }
  | _ => none }
def fnFileGetRow : OpenClaim := { program := "ytjfkeknnjjlepaagreatdoor", sum := "77a4669a82b501d3745de48f83bacd39b4b85e60d6b76bb2002e11d4cfcebc8d", func := "loop.example/medlar/laws.FnFileGet", spec := "fnFileGet", inPlace := ["internal/bytealg.IndexByteString", "internal/bytealg.CountString", "internal/bytealg.IndexString", "internal/abi.NoEscape", "internal/bytealg.MakeNoZero"], unfollowed := true, recurses := true, named := ["unicode/utf8.first", "unicode/utf8.acceptRanges", "internal/bytealg.MaxLen", "strconv.ErrSyntax", "strconv.ErrRange", "internal/strconv.uint64pow10", "math/bits.deBruijn32tab", "math/bits.deBruijn64tab", "loop.example/medlar/impl.shaStep"], apart := false, laid := [("math/bits.deBruijn32tab", laid_math_bits_deBruijn32tab), ("math/bits.deBruijn64tab", laid_math_bits_deBruijn64tab), ("internal/strconv.uint64pow10", laid_internal_strconv_uint64pow10), ("unicode/utf8.acceptRanges", laid_unicode_utf8_acceptRanges), ("strconv.ErrRange", laid_strconv_ErrRange), ("strconv.ErrSyntax", laid_strconv_ErrSyntax), ("loop.example/medlar/impl.shaStep", laid_loop_example_medlar_impl_shaStep), ("unicode/utf8.first", laid_unicode_utf8_first)] }
def FnFileGetSaid : Prop := fnFileGetRow.holds Tryz.pinned (OpenSpec.ofChange fnFileGetSpec)

/-- ITS FALSE NEIGHBOUR: 'it returns false'. Refute it at one input. -/
def fnFileGetWrong : ChangeSpec := { name := "fnFileGet", vars := ["loop.example/medlar/impl.shaStep"], fn := fun _ => fun
  | [d, g1] => { results := [.lit (.bool false)], args := [d], vars := [g1] }
  | _ => none }
def FnFileGetWrongFalsely : Prop := fnFileGetRow.holds Tryz.pinned (OpenSpec.ofChange fnFileGetWrong)

/-- 'laws.FnClientRise': WHATEVER THE INPUT: true; the input reads as it did. -/
def fnClientRiseSpec : ChangeSpec := { name := "fnClientRise", vars := ["loop.example/medlar/impl.shaStep"], fn := fun _ => fun
  | [d, g1] => { results := [.lit (.bool true)], args := [d], vars := [g1] }
  | _ => none }
def fnClientRiseRow : OpenClaim := { program := "ytjfkeknnjjlepaagreatdoor", sum := "77a4669a82b501d3745de48f83bacd39b4b85e60d6b76bb2002e11d4cfcebc8d", func := "loop.example/medlar/laws.FnClientRise", spec := "fnClientRise", inPlace := ["internal/bytealg.IndexByteString", "internal/bytealg.CountString", "internal/bytealg.IndexString", "internal/abi.NoEscape", "internal/bytealg.MakeNoZero"], unfollowed := true, recurses := true, named := ["unicode/utf8.first", "unicode/utf8.acceptRanges", "internal/bytealg.MaxLen", "strconv.ErrSyntax", "strconv.ErrRange", "internal/strconv.uint64pow10", "math/bits.deBruijn32tab", "math/bits.deBruijn64tab", "loop.example/medlar/impl.shaStep"], apart := false, laid := [("math/bits.deBruijn32tab", laid_math_bits_deBruijn32tab), ("math/bits.deBruijn64tab", laid_math_bits_deBruijn64tab), ("internal/strconv.uint64pow10", laid_internal_strconv_uint64pow10), ("unicode/utf8.acceptRanges", laid_unicode_utf8_acceptRanges), ("strconv.ErrRange", laid_strconv_ErrRange), ("strconv.ErrSyntax", laid_strconv_ErrSyntax), ("loop.example/medlar/impl.shaStep", laid_loop_example_medlar_impl_shaStep), ("unicode/utf8.first", laid_unicode_utf8_first)] }
def FnClientRiseSaid : Prop := fnClientRiseRow.holds Tryz.pinned (OpenSpec.ofChange fnClientRiseSpec)

/-- ITS FALSE NEIGHBOUR: 'it returns false'. Refute it at one input. -/
def fnClientRiseWrong : ChangeSpec := { name := "fnClientRise", vars := ["loop.example/medlar/impl.shaStep"], fn := fun _ => fun
  | [d, g1] => { results := [.lit (.bool false)], args := [d], vars := [g1] }
  | _ => none }
def FnClientRiseWrongFalsely : Prop := fnClientRiseRow.holds Tryz.pinned (OpenSpec.ofChange fnClientRiseWrong)

/-- 'laws.FnClientFile': WHATEVER THE INPUT: true; the input reads as it did. -/
def fnClientFileSpec : ChangeSpec := { name := "fnClientFile", vars := ["loop.example/medlar/impl.shaStep"], fn := fun _ => fun
  | [d, g1] => { results := [.lit (.bool true)], args := [d], vars := [g1] }
  | _ => none }
def fnClientFileRow : OpenClaim := { program := "ytjfkeknnjjlepaagreatdoor", sum := "77a4669a82b501d3745de48f83bacd39b4b85e60d6b76bb2002e11d4cfcebc8d", func := "loop.example/medlar/laws.FnClientFile", spec := "fnClientFile", inPlace := ["internal/bytealg.IndexByteString", "internal/bytealg.CountString", "internal/bytealg.IndexString", "internal/abi.NoEscape", "internal/bytealg.MakeNoZero"], unfollowed := true, recurses := true, named := ["unicode/utf8.first", "unicode/utf8.acceptRanges", "internal/bytealg.MaxLen", "strconv.ErrSyntax", "strconv.ErrRange", "internal/strconv.uint64pow10", "math/bits.deBruijn32tab", "math/bits.deBruijn64tab", "loop.example/medlar/impl.shaStep"], apart := false, laid := [("math/bits.deBruijn32tab", laid_math_bits_deBruijn32tab), ("math/bits.deBruijn64tab", laid_math_bits_deBruijn64tab), ("internal/strconv.uint64pow10", laid_internal_strconv_uint64pow10), ("unicode/utf8.acceptRanges", laid_unicode_utf8_acceptRanges), ("strconv.ErrRange", laid_strconv_ErrRange), ("strconv.ErrSyntax", laid_strconv_ErrSyntax), ("loop.example/medlar/impl.shaStep", laid_loop_example_medlar_impl_shaStep), ("unicode/utf8.first", laid_unicode_utf8_first)] }
def FnClientFileSaid : Prop := fnClientFileRow.holds Tryz.pinned (OpenSpec.ofChange fnClientFileSpec)

/-- ITS FALSE NEIGHBOUR: 'it returns false'. Refute it at one input. -/
def fnClientFileWrong : ChangeSpec := { name := "fnClientFile", vars := ["loop.example/medlar/impl.shaStep"], fn := fun _ => fun
  | [d, g1] => { results := [.lit (.bool false)], args := [d], vars := [g1] }
  | _ => none }
def FnClientFileWrongFalsely : Prop := fnClientFileRow.holds Tryz.pinned (OpenSpec.ofChange fnClientFileWrong)

/-- 'laws.FnClientTake': WHATEVER THE INPUT: true; the input reads as it did. -/
def fnClientTakeSpec : ChangeSpec := { name := "fnClientTake", vars := ["loop.example/medlar/impl.shaStep"], fn := fun _ => fun
  | [d, g1] => { results := [.lit (.bool true)], args := [d], vars := [g1] }
  | _ => none }
def fnClientTakeRow : OpenClaim := { program := "ytjfkeknnjjlepaagreatdoor", sum := "77a4669a82b501d3745de48f83bacd39b4b85e60d6b76bb2002e11d4cfcebc8d", func := "loop.example/medlar/laws.FnClientTake", spec := "fnClientTake", inPlace := ["internal/bytealg.IndexByteString", "internal/bytealg.CountString", "internal/bytealg.IndexString", "internal/abi.NoEscape", "internal/bytealg.MakeNoZero"], unfollowed := true, recurses := true, named := ["unicode/utf8.first", "unicode/utf8.acceptRanges", "internal/bytealg.MaxLen", "strconv.ErrSyntax", "strconv.ErrRange", "internal/strconv.uint64pow10", "math/bits.deBruijn32tab", "math/bits.deBruijn64tab", "loop.example/medlar/impl.shaStep"], apart := false, laid := [("math/bits.deBruijn32tab", laid_math_bits_deBruijn32tab), ("math/bits.deBruijn64tab", laid_math_bits_deBruijn64tab), ("internal/strconv.uint64pow10", laid_internal_strconv_uint64pow10), ("unicode/utf8.acceptRanges", laid_unicode_utf8_acceptRanges), ("strconv.ErrRange", laid_strconv_ErrRange), ("strconv.ErrSyntax", laid_strconv_ErrSyntax), ("loop.example/medlar/impl.shaStep", laid_loop_example_medlar_impl_shaStep), ("unicode/utf8.first", laid_unicode_utf8_first)] }
def FnClientTakeSaid : Prop := fnClientTakeRow.holds Tryz.pinned (OpenSpec.ofChange fnClientTakeSpec)

/-- ITS FALSE NEIGHBOUR: 'it returns false'. Refute it at one input. -/
def fnClientTakeWrong : ChangeSpec := { name := "fnClientTake", vars := ["loop.example/medlar/impl.shaStep"], fn := fun _ => fun
  | [d, g1] => { results := [.lit (.bool false)], args := [d], vars := [g1] }
  | _ => none }
def FnClientTakeWrongFalsely : Prop := fnClientTakeRow.holds Tryz.pinned (OpenSpec.ofChange fnClientTakeWrong)

/-- 'laws.FnClientFall': WHATEVER THE INPUT: true; the input reads as it did. -/
def fnClientFallSpec : ChangeSpec := { name := "fnClientFall", vars := ["loop.example/medlar/impl.shaStep"], fn := fun _ => fun
  | [d, g1] => { results := [.lit (.bool true)], args := [d], vars := [g1] }
  | _ => none }
def fnClientFallRow : OpenClaim := { program := "ytjfkeknnjjlepaagreatdoor", sum := "77a4669a82b501d3745de48f83bacd39b4b85e60d6b76bb2002e11d4cfcebc8d", func := "loop.example/medlar/laws.FnClientFall", spec := "fnClientFall", inPlace := ["internal/bytealg.IndexByteString", "internal/bytealg.CountString", "internal/bytealg.IndexString", "internal/abi.NoEscape", "internal/bytealg.MakeNoZero"], unfollowed := true, recurses := true, named := ["unicode/utf8.first", "unicode/utf8.acceptRanges", "internal/bytealg.MaxLen", "strconv.ErrSyntax", "strconv.ErrRange", "internal/strconv.uint64pow10", "math/bits.deBruijn32tab", "math/bits.deBruijn64tab", "loop.example/medlar/impl.shaStep"], apart := false, laid := [("math/bits.deBruijn32tab", laid_math_bits_deBruijn32tab), ("math/bits.deBruijn64tab", laid_math_bits_deBruijn64tab), ("internal/strconv.uint64pow10", laid_internal_strconv_uint64pow10), ("unicode/utf8.acceptRanges", laid_unicode_utf8_acceptRanges), ("strconv.ErrRange", laid_strconv_ErrRange), ("strconv.ErrSyntax", laid_strconv_ErrSyntax), ("loop.example/medlar/impl.shaStep", laid_loop_example_medlar_impl_shaStep), ("unicode/utf8.first", laid_unicode_utf8_first)] }
def FnClientFallSaid : Prop := fnClientFallRow.holds Tryz.pinned (OpenSpec.ofChange fnClientFallSpec)

/-- ITS FALSE NEIGHBOUR: 'it returns false'. Refute it at one input. -/
def fnClientFallWrong : ChangeSpec := { name := "fnClientFall", vars := ["loop.example/medlar/impl.shaStep"], fn := fun _ => fun
  | [d, g1] => { results := [.lit (.bool false)], args := [d], vars := [g1] }
  | _ => none }
def FnClientFallWrongFalsely : Prop := fnClientFallRow.holds Tryz.pinned (OpenSpec.ofChange fnClientFallWrong)

/- THE SECOND FORM. 'bulk': how many values and letters a reading holds, each counted each time it is reached (what is shared counts as often as it is met; a slice's spare places count too). A statement '..UptoSaid' is the law's where the arguments, and the package variables that the reading takes, are together of bulk at most 1048576: NARROWER than '..Said'. Prove '..Said' where nothing that the law and all that it calls make is longer than what came in: it says more and counts as full. Else prove '..UptoSaid'. A law counts once. -/
mutual
def uptoBulk {H : Type} : DataW H → Nat
  | .lit (.string bytes) => bytes.length + 1
  | .lit _ => 1
  | .nil => 1
  | .ptr d => uptoBulk d + 1
  | .slice elems spare => uptoBulkAll elems + uptoBulkAll spare + 1
  | .agg parts => uptoBulkAll parts + 1
  | .iface _ d => uptoBulk d + 1
  | .map entries => uptoBulkEntries entries + 1
  | .held _ => 1
def uptoBulkAll {H : Type} : List (DataW H) → Nat
  | [] => 0
  | d :: r => uptoBulk d + uptoBulkAll r
def uptoBulkEntries {H : Type} : List (Lit × DataW H) → Nat
  | [] => 0
  | x :: r => uptoBulkEntry x + uptoBulkEntries r
def uptoBulkEntry {H : Type} : Lit × DataW H → Nat
  | (.string bytes, d) => bytes.length + uptoBulk d + 1
  | (_, d) => uptoBulk d + 1
 end
def uptoSmall : (H : Type) → List (DataW H) → Bool := fun _ ds => decide (uptoBulkAll ds ≤ 1048576)
def OpenSpec.upto (s : _root_.Go.ChangeSpec) : _root_.Go.OpenSpec := { _root_.Go.OpenSpec.ofChange s with cond := some uptoSmall }

/-- 'laws.FnExactReleaseGet', WHERE WHAT IT READS IS OF BULK AT MOST 1048576: true; the input reads as it did. -/
def fnExactReleaseGetUptoRow : OpenClaim := { program := "ytjfkeknnjjlepaagreatdoor", sum := "77a4669a82b501d3745de48f83bacd39b4b85e60d6b76bb2002e11d4cfcebc8d", func := "loop.example/medlar/laws.FnExactReleaseGet", spec := "fnExactReleaseGet", inPlace := ["internal/bytealg.CountString", "internal/bytealg.IndexByteString", "internal/bytealg.IndexString", "internal/abi.NoEscape", "internal/bytealg.MakeNoZero"], unfollowed := true, recurses := true, named := ["unicode/utf8.first", "unicode/utf8.acceptRanges", "internal/bytealg.MaxLen", "strconv.ErrSyntax", "strconv.ErrRange", "internal/strconv.uint64pow10", "math/bits.deBruijn32tab", "math/bits.deBruijn64tab"], apart := false, laid := [("math/bits.deBruijn32tab", laid_math_bits_deBruijn32tab), ("math/bits.deBruijn64tab", laid_math_bits_deBruijn64tab), ("internal/strconv.uint64pow10", laid_internal_strconv_uint64pow10), ("unicode/utf8.acceptRanges", laid_unicode_utf8_acceptRanges), ("strconv.ErrRange", laid_strconv_ErrRange), ("strconv.ErrSyntax", laid_strconv_ErrSyntax), ("unicode/utf8.first", laid_unicode_utf8_first)], narrowed := true }
def FnExactReleaseGetUptoSaid : Prop := fnExactReleaseGetUptoRow.holds Tryz.pinned (OpenSpec.upto fnExactReleaseGetSpec)

/-- 'laws.FnReleaseText', WHERE WHAT IT READS IS OF BULK AT MOST 1048576: true; the input reads as it did. -/
def fnReleaseTextUptoRow : OpenClaim := { program := "ytjfkeknnjjlepaagreatdoor", sum := "77a4669a82b501d3745de48f83bacd39b4b85e60d6b76bb2002e11d4cfcebc8d", func := "loop.example/medlar/laws.FnReleaseText", spec := "fnReleaseText", inPlace := ["internal/bytealg.IndexByteString", "internal/bytealg.IndexString", "internal/abi.NoEscape", "internal/bytealg.MakeNoZero", "internal/bytealg.CountString"], unfollowed := true, recurses := true, named := ["unicode/utf8.first", "unicode/utf8.acceptRanges", "internal/strconv.uint64pow10", "math/bits.deBruijn32tab", "math/bits.deBruijn64tab", "internal/bytealg.MaxLen", "strconv.ErrSyntax", "strconv.ErrRange"], apart := false, laid := [("math/bits.deBruijn32tab", laid_math_bits_deBruijn32tab), ("math/bits.deBruijn64tab", laid_math_bits_deBruijn64tab), ("internal/strconv.uint64pow10", laid_internal_strconv_uint64pow10), ("unicode/utf8.acceptRanges", laid_unicode_utf8_acceptRanges), ("strconv.ErrRange", laid_strconv_ErrRange), ("strconv.ErrSyntax", laid_strconv_ErrSyntax), ("unicode/utf8.first", laid_unicode_utf8_first)], narrowed := true }
def FnReleaseTextUptoSaid : Prop := fnReleaseTextUptoRow.holds Tryz.pinned (OpenSpec.upto fnReleaseTextSpec)

/-- 'laws.FnReleaseOf', WHERE WHAT IT READS IS OF BULK AT MOST 1048576: true; the input reads as it did. -/
def fnReleaseOfUptoRow : OpenClaim := { program := "ytjfkeknnjjlepaagreatdoor", sum := "77a4669a82b501d3745de48f83bacd39b4b85e60d6b76bb2002e11d4cfcebc8d", func := "loop.example/medlar/laws.FnReleaseOf", spec := "fnReleaseOf", inPlace := ["internal/abi.NoEscape", "internal/bytealg.MakeNoZero", "internal/bytealg.IndexByteString", "internal/bytealg.IndexString", "internal/bytealg.CountString"], unfollowed := true, recurses := true, named := ["loop.example/medlar/impl.shaStep", "internal/strconv.uint64pow10", "math/bits.deBruijn32tab", "math/bits.deBruijn64tab", "unicode/utf8.first", "unicode/utf8.acceptRanges", "internal/bytealg.MaxLen", "strconv.ErrSyntax", "strconv.ErrRange"], apart := false, laid := [("math/bits.deBruijn32tab", laid_math_bits_deBruijn32tab), ("math/bits.deBruijn64tab", laid_math_bits_deBruijn64tab), ("internal/strconv.uint64pow10", laid_internal_strconv_uint64pow10), ("unicode/utf8.acceptRanges", laid_unicode_utf8_acceptRanges), ("strconv.ErrRange", laid_strconv_ErrRange), ("strconv.ErrSyntax", laid_strconv_ErrSyntax), ("loop.example/medlar/impl.shaStep", laid_loop_example_medlar_impl_shaStep), ("unicode/utf8.first", laid_unicode_utf8_first)], narrowed := true }
def FnReleaseOfUptoSaid : Prop := fnReleaseOfUptoRow.holds Tryz.pinned (OpenSpec.upto fnReleaseOfSpec)

/-- 'laws.FnClientNew', WHERE WHAT IT READS IS OF BULK AT MOST 1048576: true; the input reads as it did. -/
def fnClientNewUptoRow : OpenClaim := { program := "ytjfkeknnjjlepaagreatdoor", sum := "77a4669a82b501d3745de48f83bacd39b4b85e60d6b76bb2002e11d4cfcebc8d", func := "loop.example/medlar/laws.FnClientNew", spec := "fnClientNew", inPlace := ["internal/bytealg.IndexByteString", "internal/bytealg.CountString", "internal/bytealg.IndexString", "internal/abi.NoEscape", "internal/bytealg.MakeNoZero"], unfollowed := true, recurses := true, named := ["unicode/utf8.first", "unicode/utf8.acceptRanges", "internal/bytealg.MaxLen", "strconv.ErrSyntax", "strconv.ErrRange", "internal/strconv.uint64pow10", "math/bits.deBruijn32tab", "math/bits.deBruijn64tab", "loop.example/medlar/impl.shaStep"], apart := false, laid := [("math/bits.deBruijn32tab", laid_math_bits_deBruijn32tab), ("math/bits.deBruijn64tab", laid_math_bits_deBruijn64tab), ("internal/strconv.uint64pow10", laid_internal_strconv_uint64pow10), ("unicode/utf8.acceptRanges", laid_unicode_utf8_acceptRanges), ("strconv.ErrRange", laid_strconv_ErrRange), ("strconv.ErrSyntax", laid_strconv_ErrSyntax), ("loop.example/medlar/impl.shaStep", laid_loop_example_medlar_impl_shaStep), ("unicode/utf8.first", laid_unicode_utf8_first)], narrowed := true }
def FnClientNewUptoSaid : Prop := fnClientNewUptoRow.holds Tryz.pinned (OpenSpec.upto fnClientNewSpec)

/-- 'laws.FnExactFileGet', WHERE WHAT IT READS IS OF BULK AT MOST 1048576: true; the input reads as it did. -/
def fnExactFileGetUptoRow : OpenClaim := { program := "ytjfkeknnjjlepaagreatdoor", sum := "77a4669a82b501d3745de48f83bacd39b4b85e60d6b76bb2002e11d4cfcebc8d", func := "loop.example/medlar/laws.FnExactFileGet", spec := "fnExactFileGet", inPlace := ["internal/bytealg.IndexByteString", "internal/bytealg.CountString", "internal/bytealg.IndexString", "internal/abi.NoEscape", "internal/bytealg.MakeNoZero"], unfollowed := true, recurses := true, named := ["unicode/utf8.first", "unicode/utf8.acceptRanges", "internal/bytealg.MaxLen", "strconv.ErrSyntax", "strconv.ErrRange", "internal/strconv.uint64pow10", "math/bits.deBruijn32tab", "math/bits.deBruijn64tab", "loop.example/medlar/impl.shaStep"], apart := false, laid := [("math/bits.deBruijn32tab", laid_math_bits_deBruijn32tab), ("math/bits.deBruijn64tab", laid_math_bits_deBruijn64tab), ("internal/strconv.uint64pow10", laid_internal_strconv_uint64pow10), ("unicode/utf8.acceptRanges", laid_unicode_utf8_acceptRanges), ("strconv.ErrRange", laid_strconv_ErrRange), ("strconv.ErrSyntax", laid_strconv_ErrSyntax), ("loop.example/medlar/impl.shaStep", laid_loop_example_medlar_impl_shaStep), ("unicode/utf8.first", laid_unicode_utf8_first)], narrowed := true }
def FnExactFileGetUptoSaid : Prop := fnExactFileGetUptoRow.holds Tryz.pinned (OpenSpec.upto fnExactFileGetSpec)

/-- 'laws.FnExactClientOk', WHERE WHAT IT READS IS OF BULK AT MOST 1048576: true; the input reads as it did. -/
def fnExactClientOkUptoRow : OpenClaim := { program := "ytjfkeknnjjlepaagreatdoor", sum := "77a4669a82b501d3745de48f83bacd39b4b85e60d6b76bb2002e11d4cfcebc8d", func := "loop.example/medlar/laws.FnExactClientOk", spec := "fnExactClientOk", inPlace := ["internal/bytealg.IndexByteString", "internal/bytealg.CountString", "internal/bytealg.IndexString", "internal/abi.NoEscape", "internal/bytealg.MakeNoZero"], unfollowed := true, recurses := true, named := ["unicode/utf8.first", "unicode/utf8.acceptRanges", "internal/bytealg.MaxLen", "strconv.ErrSyntax", "strconv.ErrRange", "internal/strconv.uint64pow10", "math/bits.deBruijn32tab", "math/bits.deBruijn64tab", "loop.example/medlar/impl.shaStep"], apart := false, laid := [("math/bits.deBruijn32tab", laid_math_bits_deBruijn32tab), ("math/bits.deBruijn64tab", laid_math_bits_deBruijn64tab), ("internal/strconv.uint64pow10", laid_internal_strconv_uint64pow10), ("unicode/utf8.acceptRanges", laid_unicode_utf8_acceptRanges), ("strconv.ErrRange", laid_strconv_ErrRange), ("strconv.ErrSyntax", laid_strconv_ErrSyntax), ("loop.example/medlar/impl.shaStep", laid_loop_example_medlar_impl_shaStep), ("unicode/utf8.first", laid_unicode_utf8_first)], narrowed := true }
def FnExactClientOkUptoSaid : Prop := fnExactClientOkUptoRow.holds Tryz.pinned (OpenSpec.upto fnExactClientOkSpec)

/-- 'laws.FnExactClientRise', WHERE WHAT IT READS IS OF BULK AT MOST 1048576: true; the input reads as it did. -/
def fnExactClientRiseUptoRow : OpenClaim := { program := "ytjfkeknnjjlepaagreatdoor", sum := "77a4669a82b501d3745de48f83bacd39b4b85e60d6b76bb2002e11d4cfcebc8d", func := "loop.example/medlar/laws.FnExactClientRise", spec := "fnExactClientRise", inPlace := ["internal/bytealg.IndexByteString", "internal/bytealg.CountString", "internal/bytealg.IndexString", "internal/abi.NoEscape", "internal/bytealg.MakeNoZero"], unfollowed := true, recurses := true, named := ["unicode/utf8.first", "unicode/utf8.acceptRanges", "internal/bytealg.MaxLen", "strconv.ErrSyntax", "strconv.ErrRange", "internal/strconv.uint64pow10", "math/bits.deBruijn32tab", "math/bits.deBruijn64tab", "loop.example/medlar/impl.shaStep"], apart := false, laid := [("math/bits.deBruijn32tab", laid_math_bits_deBruijn32tab), ("math/bits.deBruijn64tab", laid_math_bits_deBruijn64tab), ("internal/strconv.uint64pow10", laid_internal_strconv_uint64pow10), ("unicode/utf8.acceptRanges", laid_unicode_utf8_acceptRanges), ("strconv.ErrRange", laid_strconv_ErrRange), ("strconv.ErrSyntax", laid_strconv_ErrSyntax), ("loop.example/medlar/impl.shaStep", laid_loop_example_medlar_impl_shaStep), ("unicode/utf8.first", laid_unicode_utf8_first)], narrowed := true }
def FnExactClientRiseUptoSaid : Prop := fnExactClientRiseUptoRow.holds Tryz.pinned (OpenSpec.upto fnExactClientRiseSpec)

/-- 'laws.FnExactClientTake', WHERE WHAT IT READS IS OF BULK AT MOST 1048576: true; the input reads as it did. -/
def fnExactClientTakeUptoRow : OpenClaim := { program := "ytjfkeknnjjlepaagreatdoor", sum := "77a4669a82b501d3745de48f83bacd39b4b85e60d6b76bb2002e11d4cfcebc8d", func := "loop.example/medlar/laws.FnExactClientTake", spec := "fnExactClientTake", inPlace := ["internal/bytealg.IndexByteString", "internal/bytealg.CountString", "internal/bytealg.IndexString", "internal/abi.NoEscape", "internal/bytealg.MakeNoZero"], unfollowed := true, recurses := true, named := ["unicode/utf8.first", "unicode/utf8.acceptRanges", "internal/bytealg.MaxLen", "strconv.ErrSyntax", "strconv.ErrRange", "internal/strconv.uint64pow10", "math/bits.deBruijn32tab", "math/bits.deBruijn64tab", "loop.example/medlar/impl.shaStep"], apart := false, laid := [("math/bits.deBruijn32tab", laid_math_bits_deBruijn32tab), ("math/bits.deBruijn64tab", laid_math_bits_deBruijn64tab), ("internal/strconv.uint64pow10", laid_internal_strconv_uint64pow10), ("unicode/utf8.acceptRanges", laid_unicode_utf8_acceptRanges), ("strconv.ErrRange", laid_strconv_ErrRange), ("strconv.ErrSyntax", laid_strconv_ErrSyntax), ("loop.example/medlar/impl.shaStep", laid_loop_example_medlar_impl_shaStep), ("unicode/utf8.first", laid_unicode_utf8_first)], narrowed := true }
def FnExactClientTakeUptoSaid : Prop := fnExactClientTakeUptoRow.holds Tryz.pinned (OpenSpec.upto fnExactClientTakeSpec)

/-- 'laws.FnExactClientFall', WHERE WHAT IT READS IS OF BULK AT MOST 1048576: true; the input reads as it did. -/
def fnExactClientFallUptoRow : OpenClaim := { program := "ytjfkeknnjjlepaagreatdoor", sum := "77a4669a82b501d3745de48f83bacd39b4b85e60d6b76bb2002e11d4cfcebc8d", func := "loop.example/medlar/laws.FnExactClientFall", spec := "fnExactClientFall", inPlace := ["internal/bytealg.IndexByteString", "internal/bytealg.CountString", "internal/bytealg.IndexString", "internal/abi.NoEscape", "internal/bytealg.MakeNoZero"], unfollowed := true, recurses := true, named := ["unicode/utf8.first", "unicode/utf8.acceptRanges", "internal/bytealg.MaxLen", "strconv.ErrSyntax", "strconv.ErrRange", "internal/strconv.uint64pow10", "math/bits.deBruijn32tab", "math/bits.deBruijn64tab", "loop.example/medlar/impl.shaStep"], apart := false, laid := [("math/bits.deBruijn32tab", laid_math_bits_deBruijn32tab), ("math/bits.deBruijn64tab", laid_math_bits_deBruijn64tab), ("internal/strconv.uint64pow10", laid_internal_strconv_uint64pow10), ("unicode/utf8.acceptRanges", laid_unicode_utf8_acceptRanges), ("strconv.ErrRange", laid_strconv_ErrRange), ("strconv.ErrSyntax", laid_strconv_ErrSyntax), ("loop.example/medlar/impl.shaStep", laid_loop_example_medlar_impl_shaStep), ("unicode/utf8.first", laid_unicode_utf8_first)], narrowed := true }
def FnExactClientFallUptoSaid : Prop := fnExactClientFallUptoRow.holds Tryz.pinned (OpenSpec.upto fnExactClientFallSpec)

/-- 'laws.FnFileGet', WHERE WHAT IT READS IS OF BULK AT MOST 1048576: true; the input reads as it did. -/
def fnFileGetUptoRow : OpenClaim := { program := "ytjfkeknnjjlepaagreatdoor", sum := "77a4669a82b501d3745de48f83bacd39b4b85e60d6b76bb2002e11d4cfcebc8d", func := "loop.example/medlar/laws.FnFileGet", spec := "fnFileGet", inPlace := ["internal/bytealg.IndexByteString", "internal/bytealg.CountString", "internal/bytealg.IndexString", "internal/abi.NoEscape", "internal/bytealg.MakeNoZero"], unfollowed := true, recurses := true, named := ["unicode/utf8.first", "unicode/utf8.acceptRanges", "internal/bytealg.MaxLen", "strconv.ErrSyntax", "strconv.ErrRange", "internal/strconv.uint64pow10", "math/bits.deBruijn32tab", "math/bits.deBruijn64tab", "loop.example/medlar/impl.shaStep"], apart := false, laid := [("math/bits.deBruijn32tab", laid_math_bits_deBruijn32tab), ("math/bits.deBruijn64tab", laid_math_bits_deBruijn64tab), ("internal/strconv.uint64pow10", laid_internal_strconv_uint64pow10), ("unicode/utf8.acceptRanges", laid_unicode_utf8_acceptRanges), ("strconv.ErrRange", laid_strconv_ErrRange), ("strconv.ErrSyntax", laid_strconv_ErrSyntax), ("loop.example/medlar/impl.shaStep", laid_loop_example_medlar_impl_shaStep), ("unicode/utf8.first", laid_unicode_utf8_first)], narrowed := true }
def FnFileGetUptoSaid : Prop := fnFileGetUptoRow.holds Tryz.pinned (OpenSpec.upto fnFileGetSpec)

/-- 'laws.FnClientRise', WHERE WHAT IT READS IS OF BULK AT MOST 1048576: true; the input reads as it did. -/
def fnClientRiseUptoRow : OpenClaim := { program := "ytjfkeknnjjlepaagreatdoor", sum := "77a4669a82b501d3745de48f83bacd39b4b85e60d6b76bb2002e11d4cfcebc8d", func := "loop.example/medlar/laws.FnClientRise", spec := "fnClientRise", inPlace := ["internal/bytealg.IndexByteString", "internal/bytealg.CountString", "internal/bytealg.IndexString", "internal/abi.NoEscape", "internal/bytealg.MakeNoZero"], unfollowed := true, recurses := true, named := ["unicode/utf8.first", "unicode/utf8.acceptRanges", "internal/bytealg.MaxLen", "strconv.ErrSyntax", "strconv.ErrRange", "internal/strconv.uint64pow10", "math/bits.deBruijn32tab", "math/bits.deBruijn64tab", "loop.example/medlar/impl.shaStep"], apart := false, laid := [("math/bits.deBruijn32tab", laid_math_bits_deBruijn32tab), ("math/bits.deBruijn64tab", laid_math_bits_deBruijn64tab), ("internal/strconv.uint64pow10", laid_internal_strconv_uint64pow10), ("unicode/utf8.acceptRanges", laid_unicode_utf8_acceptRanges), ("strconv.ErrRange", laid_strconv_ErrRange), ("strconv.ErrSyntax", laid_strconv_ErrSyntax), ("loop.example/medlar/impl.shaStep", laid_loop_example_medlar_impl_shaStep), ("unicode/utf8.first", laid_unicode_utf8_first)], narrowed := true }
def FnClientRiseUptoSaid : Prop := fnClientRiseUptoRow.holds Tryz.pinned (OpenSpec.upto fnClientRiseSpec)

/-- 'laws.FnClientFile', WHERE WHAT IT READS IS OF BULK AT MOST 1048576: true; the input reads as it did. -/
def fnClientFileUptoRow : OpenClaim := { program := "ytjfkeknnjjlepaagreatdoor", sum := "77a4669a82b501d3745de48f83bacd39b4b85e60d6b76bb2002e11d4cfcebc8d", func := "loop.example/medlar/laws.FnClientFile", spec := "fnClientFile", inPlace := ["internal/bytealg.IndexByteString", "internal/bytealg.CountString", "internal/bytealg.IndexString", "internal/abi.NoEscape", "internal/bytealg.MakeNoZero"], unfollowed := true, recurses := true, named := ["unicode/utf8.first", "unicode/utf8.acceptRanges", "internal/bytealg.MaxLen", "strconv.ErrSyntax", "strconv.ErrRange", "internal/strconv.uint64pow10", "math/bits.deBruijn32tab", "math/bits.deBruijn64tab", "loop.example/medlar/impl.shaStep"], apart := false, laid := [("math/bits.deBruijn32tab", laid_math_bits_deBruijn32tab), ("math/bits.deBruijn64tab", laid_math_bits_deBruijn64tab), ("internal/strconv.uint64pow10", laid_internal_strconv_uint64pow10), ("unicode/utf8.acceptRanges", laid_unicode_utf8_acceptRanges), ("strconv.ErrRange", laid_strconv_ErrRange), ("strconv.ErrSyntax", laid_strconv_ErrSyntax), ("loop.example/medlar/impl.shaStep", laid_loop_example_medlar_impl_shaStep), ("unicode/utf8.first", laid_unicode_utf8_first)], narrowed := true }
def FnClientFileUptoSaid : Prop := fnClientFileUptoRow.holds Tryz.pinned (OpenSpec.upto fnClientFileSpec)

/-- 'laws.FnClientTake', WHERE WHAT IT READS IS OF BULK AT MOST 1048576: true; the input reads as it did. -/
def fnClientTakeUptoRow : OpenClaim := { program := "ytjfkeknnjjlepaagreatdoor", sum := "77a4669a82b501d3745de48f83bacd39b4b85e60d6b76bb2002e11d4cfcebc8d", func := "loop.example/medlar/laws.FnClientTake", spec := "fnClientTake", inPlace := ["internal/bytealg.IndexByteString", "internal/bytealg.CountString", "internal/bytealg.IndexString", "internal/abi.NoEscape", "internal/bytealg.MakeNoZero"], unfollowed := true, recurses := true, named := ["unicode/utf8.first", "unicode/utf8.acceptRanges", "internal/bytealg.MaxLen", "strconv.ErrSyntax", "strconv.ErrRange", "internal/strconv.uint64pow10", "math/bits.deBruijn32tab", "math/bits.deBruijn64tab", "loop.example/medlar/impl.shaStep"], apart := false, laid := [("math/bits.deBruijn32tab", laid_math_bits_deBruijn32tab), ("math/bits.deBruijn64tab", laid_math_bits_deBruijn64tab), ("internal/strconv.uint64pow10", laid_internal_strconv_uint64pow10), ("unicode/utf8.acceptRanges", laid_unicode_utf8_acceptRanges), ("strconv.ErrRange", laid_strconv_ErrRange), ("strconv.ErrSyntax", laid_strconv_ErrSyntax), ("loop.example/medlar/impl.shaStep", laid_loop_example_medlar_impl_shaStep), ("unicode/utf8.first", laid_unicode_utf8_first)], narrowed := true }
def FnClientTakeUptoSaid : Prop := fnClientTakeUptoRow.holds Tryz.pinned (OpenSpec.upto fnClientTakeSpec)

/-- 'laws.FnClientFall', WHERE WHAT IT READS IS OF BULK AT MOST 1048576: true; the input reads as it did. -/
def fnClientFallUptoRow : OpenClaim := { program := "ytjfkeknnjjlepaagreatdoor", sum := "77a4669a82b501d3745de48f83bacd39b4b85e60d6b76bb2002e11d4cfcebc8d", func := "loop.example/medlar/laws.FnClientFall", spec := "fnClientFall", inPlace := ["internal/bytealg.IndexByteString", "internal/bytealg.CountString", "internal/bytealg.IndexString", "internal/abi.NoEscape", "internal/bytealg.MakeNoZero"], unfollowed := true, recurses := true, named := ["unicode/utf8.first", "unicode/utf8.acceptRanges", "internal/bytealg.MaxLen", "strconv.ErrSyntax", "strconv.ErrRange", "internal/strconv.uint64pow10", "math/bits.deBruijn32tab", "math/bits.deBruijn64tab", "loop.example/medlar/impl.shaStep"], apart := false, laid := [("math/bits.deBruijn32tab", laid_math_bits_deBruijn32tab), ("math/bits.deBruijn64tab", laid_math_bits_deBruijn64tab), ("internal/strconv.uint64pow10", laid_internal_strconv_uint64pow10), ("unicode/utf8.acceptRanges", laid_unicode_utf8_acceptRanges), ("strconv.ErrRange", laid_strconv_ErrRange), ("strconv.ErrSyntax", laid_strconv_ErrSyntax), ("loop.example/medlar/impl.shaStep", laid_loop_example_medlar_impl_shaStep), ("unicode/utf8.first", laid_unicode_utf8_first)], narrowed := true }
def FnClientFallUptoSaid : Prop := fnClientFallUptoRow.holds Tryz.pinned (OpenSpec.upto fnClientFallSpec)

end Rows
end Go.Proofs.YtjfkeknnjjlepaaGreatDoor
