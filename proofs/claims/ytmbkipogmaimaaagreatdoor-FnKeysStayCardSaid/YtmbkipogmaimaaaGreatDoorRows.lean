/-
  NARROWER THAN 'FOR EVERY INPUT', by the rows' own cells (each row's printed sentence says how): FnRepaint: laid · FnKeysStay: laid · FnDamageOf: laid · FnExactHitAt: loops, laid · FnDamageAlone: laid · FnTreePatched: laid · FnExactBoxesOf: loops, laid · FnBoxesMoved: laid · FnExactDamageOf: loops, laid · FnOutline: laid · FnTreeEdits: laid.
  DERIVED. THE GIVEN ROWS OF THIS SEAT. 11 by the template 'for every input the law returns true; each argument reads behind the call as it read before'; 0 by the template 'total and deterministic' (their statements: YtmbkipogmaimaaaGreatDoorTotals.lean).
  GIVEN WITH THE SEED: the statements are not yours to turn. If you find one false, say at which input.
  Laid BY PROGRAM, IN A SANDBOX (cutbox-rows.mjs): the forced cells as the released guide's own fill.sh prints them over the translation 6408d82c65e6d56f… (all of the seat's roots in one cut). By AI agents, Wed Nov 11 2026. No macro, syntax, notation, axiom, sorry.
-/
import Derived.Test.YtmbkipogmaimaaaGreatDoorChecked
import GoSem.PinnedTables
import GoSem.Claim
import GoSem.ClaimJoined
import GoSem.ClaimMapViews
import Derived.JoinedTies
import Derived.KernelRfl
namespace Go.Proofs.YtmbkipogmaimaaaGreatDoor
/- THE CELL 'sum', in the pinned program and in every row, IS THE sha256 OF THE DUMP (.gsa) THAT YtmbkipogmaimaaaGreatDoorProg.lean LOADS. Nothing in Lean hashes anything: it is a label: what it is worth is what the hold of that sum in a sandbox is worth. -/
noncomputable def Tryz.pinned : Pinned := { name := "ytmbkipogmaimaaagreatdoor", sum := "6408d82c65e6d56f4fc31e6c8e7bbc7826099fb8a8bdefb49b2dfa649d75ce79", checked := Tryz.checked }
namespace Rows
def none {H : Type} : Left H := { results := [], args := [] }

/- WHAT THE LISTED PACKAGE-LEVEL VARIABLES READ AS WHEN THE CALL BEGINS. Each datum BY PROGRAM (the guide's laid-datum.mjs) off the statement by which the dump's own 'gosem.cut.vars' lays the variable. In a bare row this is a premise. The card (YtmbkipogmaimaaaGreatDoorCards.lean) ties it to the program's text. -/
def laid_math_bits_deBruijn32tab {H : Type} : DataW H := .agg [.lit (.int .u8 0), .lit (.int .u8 1), .lit (.int .u8 28), .lit (.int .u8 2), .lit (.int .u8 29), .lit (.int .u8 14), .lit (.int .u8 24), .lit (.int .u8 3), .lit (.int .u8 30), .lit (.int .u8 22), .lit (.int .u8 20), .lit (.int .u8 15), .lit (.int .u8 25), .lit (.int .u8 17), .lit (.int .u8 4), .lit (.int .u8 8), .lit (.int .u8 31), .lit (.int .u8 27), .lit (.int .u8 13), .lit (.int .u8 23), .lit (.int .u8 21), .lit (.int .u8 19), .lit (.int .u8 16), .lit (.int .u8 7), .lit (.int .u8 26), .lit (.int .u8 12), .lit (.int .u8 18), .lit (.int .u8 6), .lit (.int .u8 11), .lit (.int .u8 5), .lit (.int .u8 10), .lit (.int .u8 9)]
def laid_math_bits_deBruijn64tab {H : Type} : DataW H := .agg [.lit (.int .u8 0), .lit (.int .u8 1), .lit (.int .u8 56), .lit (.int .u8 2), .lit (.int .u8 57), .lit (.int .u8 49), .lit (.int .u8 28), .lit (.int .u8 3), .lit (.int .u8 61), .lit (.int .u8 58), .lit (.int .u8 42), .lit (.int .u8 50), .lit (.int .u8 38), .lit (.int .u8 29), .lit (.int .u8 17), .lit (.int .u8 4), .lit (.int .u8 62), .lit (.int .u8 47), .lit (.int .u8 59), .lit (.int .u8 36), .lit (.int .u8 45), .lit (.int .u8 43), .lit (.int .u8 51), .lit (.int .u8 22), .lit (.int .u8 53), .lit (.int .u8 39), .lit (.int .u8 33), .lit (.int .u8 30), .lit (.int .u8 24), .lit (.int .u8 18), .lit (.int .u8 12), .lit (.int .u8 5), .lit (.int .u8 63), .lit (.int .u8 55), .lit (.int .u8 48), .lit (.int .u8 27), .lit (.int .u8 60), .lit (.int .u8 41), .lit (.int .u8 37), .lit (.int .u8 16), .lit (.int .u8 46), .lit (.int .u8 35), .lit (.int .u8 44), .lit (.int .u8 21), .lit (.int .u8 52), .lit (.int .u8 32), .lit (.int .u8 23), .lit (.int .u8 11), .lit (.int .u8 54), .lit (.int .u8 26), .lit (.int .u8 40), .lit (.int .u8 15), .lit (.int .u8 34), .lit (.int .u8 20), .lit (.int .u8 31), .lit (.int .u8 10), .lit (.int .u8 25), .lit (.int .u8 14), .lit (.int .u8 19), .lit (.int .u8 9), .lit (.int .u8 13), .lit (.int .u8 8), .lit (.int .u8 7), .lit (.int .u8 6)]
def laid_internal_strconv_uint64pow10 {H : Type} : DataW H := .agg [.lit (.int .u64 1), .lit (.int .u64 10), .lit (.int .u64 100), .lit (.int .u64 1000), .lit (.int .u64 10000), .lit (.int .u64 100000), .lit (.int .u64 1000000), .lit (.int .u64 10000000), .lit (.int .u64 100000000), .lit (.int .u64 1000000000), .lit (.int .u64 10000000000), .lit (.int .u64 100000000000), .lit (.int .u64 1000000000000), .lit (.int .u64 10000000000000), .lit (.int .u64 100000000000000), .lit (.int .u64 1000000000000000), .lit (.int .u64 10000000000000000), .lit (.int .u64 100000000000000000), .lit (.int .u64 1000000000000000000), .lit (.int .u64 10000000000000000000)]
def laid_strconv_ErrRange {H : Type} : DataW H := .iface "*errors.errorString" (.ptr (.agg [.lit (.string [118, 97, 108, 117, 101, 32, 111, 117, 116, 32, 111, 102, 32, 114, 97, 110, 103, 101])]))
def laid_strconv_ErrSyntax {H : Type} : DataW H := .iface "*errors.errorString" (.ptr (.agg [.lit (.string [105, 110, 118, 97, 108, 105, 100, 32, 115, 121, 110, 116, 97, 120])]))
def laid_unicode_utf8_acceptRanges {H : Type} : DataW H := .agg [.agg [.lit (.int .u8 128), .lit (.int .u8 191)], .agg [.lit (.int .u8 160), .lit (.int .u8 191)], .agg [.lit (.int .u8 128), .lit (.int .u8 159)], .agg [.lit (.int .u8 144), .lit (.int .u8 191)], .agg [.lit (.int .u8 128), .lit (.int .u8 143)], .agg [.lit (.int .u8 0), .lit (.int .u8 0)], .agg [.lit (.int .u8 0), .lit (.int .u8 0)], .agg [.lit (.int .u8 0), .lit (.int .u8 0)], .agg [.lit (.int .u8 0), .lit (.int .u8 0)], .agg [.lit (.int .u8 0), .lit (.int .u8 0)], .agg [.lit (.int .u8 0), .lit (.int .u8 0)], .agg [.lit (.int .u8 0), .lit (.int .u8 0)], .agg [.lit (.int .u8 0), .lit (.int .u8 0)], .agg [.lit (.int .u8 0), .lit (.int .u8 0)], .agg [.lit (.int .u8 0), .lit (.int .u8 0)], .agg [.lit (.int .u8 0), .lit (.int .u8 0)]]
/-- One of Go's own tables, pinned by name: the form's constant. -/
def laid_unicode_utf8_first : DataW Unit := Go.Pinned.utf8First

/-- 'laws.FnRepaint': WHATEVER THE INPUT: true; the input reads as it did. -/
def fnRepaintSpec : ChangeSpec := { name := "fnRepaint", fn := fun _ => fun
  | [d] => { results := [.lit (.bool true)], args := [d] }
  | _ => none }
def fnRepaintRow : OpenClaim := { program := "ytmbkipogmaimaaagreatdoor", sum := "6408d82c65e6d56f4fc31e6c8e7bbc7826099fb8a8bdefb49b2dfa649d75ce79", func := "loop.example/drawnanew/laws.FnRepaint", spec := "fnRepaint", recurses := true, named := ["strconv.ErrSyntax", "strconv.ErrRange", "internal/strconv.uint64pow10", "math/bits.deBruijn32tab", "math/bits.deBruijn64tab"], apart := false, laid := [("math/bits.deBruijn32tab", laid_math_bits_deBruijn32tab), ("math/bits.deBruijn64tab", laid_math_bits_deBruijn64tab), ("internal/strconv.uint64pow10", laid_internal_strconv_uint64pow10), ("strconv.ErrRange", laid_strconv_ErrRange), ("strconv.ErrSyntax", laid_strconv_ErrSyntax)] }
def FnRepaintSaid : Prop := fnRepaintRow.holds Tryz.pinned (OpenSpec.ofChange fnRepaintSpec)

/-- ITS FALSE NEIGHBOUR: 'it returns false'. Refute it at one input. -/
def fnRepaintWrong : ChangeSpec := { name := "fnRepaint", fn := fun _ => fun
  | [d] => { results := [.lit (.bool false)], args := [d] }
  | _ => none }
def FnRepaintWrongFalsely : Prop := fnRepaintRow.holds Tryz.pinned (OpenSpec.ofChange fnRepaintWrong)

/-- 'laws.FnKeysStay': WHATEVER THE INPUT: true; the input reads as it did. -/
def fnKeysStaySpec : ChangeSpec := { name := "fnKeysStay", fn := fun _ => fun
  | [d] => { results := [.lit (.bool true)], args := [d] }
  | _ => none }
def fnKeysStayRow : OpenClaim := { program := "ytmbkipogmaimaaagreatdoor", sum := "6408d82c65e6d56f4fc31e6c8e7bbc7826099fb8a8bdefb49b2dfa649d75ce79", func := "loop.example/drawnanew/laws.FnKeysStay", spec := "fnKeysStay", recurses := true, named := ["internal/strconv.uint64pow10", "math/bits.deBruijn32tab", "math/bits.deBruijn64tab"], apart := false, laid := [("math/bits.deBruijn32tab", laid_math_bits_deBruijn32tab), ("math/bits.deBruijn64tab", laid_math_bits_deBruijn64tab), ("internal/strconv.uint64pow10", laid_internal_strconv_uint64pow10)] }
def FnKeysStaySaid : Prop := fnKeysStayRow.holds Tryz.pinned (OpenSpec.ofChange fnKeysStaySpec)

/-- ITS FALSE NEIGHBOUR: 'it returns false'. Refute it at one input. -/
def fnKeysStayWrong : ChangeSpec := { name := "fnKeysStay", fn := fun _ => fun
  | [d] => { results := [.lit (.bool false)], args := [d] }
  | _ => none }
def FnKeysStayWrongFalsely : Prop := fnKeysStayRow.holds Tryz.pinned (OpenSpec.ofChange fnKeysStayWrong)

/-- 'laws.FnDamageOf': WHATEVER THE INPUT: true; the input reads as it did. -/
def fnDamageOfSpec : ChangeSpec := { name := "fnDamageOf", fn := fun _ => fun
  | [d] => { results := [.lit (.bool true)], args := [d] }
  | _ => none }
def fnDamageOfRow : OpenClaim := { program := "ytmbkipogmaimaaagreatdoor", sum := "6408d82c65e6d56f4fc31e6c8e7bbc7826099fb8a8bdefb49b2dfa649d75ce79", func := "loop.example/drawnanew/laws.FnDamageOf", spec := "fnDamageOf", recurses := true, named := ["strconv.ErrSyntax", "strconv.ErrRange", "internal/strconv.uint64pow10", "math/bits.deBruijn32tab", "math/bits.deBruijn64tab"], apart := false, laid := [("math/bits.deBruijn32tab", laid_math_bits_deBruijn32tab), ("math/bits.deBruijn64tab", laid_math_bits_deBruijn64tab), ("internal/strconv.uint64pow10", laid_internal_strconv_uint64pow10), ("strconv.ErrRange", laid_strconv_ErrRange), ("strconv.ErrSyntax", laid_strconv_ErrSyntax)] }
def FnDamageOfSaid : Prop := fnDamageOfRow.holds Tryz.pinned (OpenSpec.ofChange fnDamageOfSpec)

/-- ITS FALSE NEIGHBOUR: 'it returns false'. Refute it at one input. -/
def fnDamageOfWrong : ChangeSpec := { name := "fnDamageOf", fn := fun _ => fun
  | [d] => { results := [.lit (.bool false)], args := [d] }
  | _ => none }
def FnDamageOfWrongFalsely : Prop := fnDamageOfRow.holds Tryz.pinned (OpenSpec.ofChange fnDamageOfWrong)

/-- 'laws.FnExactHitAt': WHATEVER THE INPUT: true; the input reads as it did. -/
def fnExactHitAtSpec : ChangeSpec := { name := "fnExactHitAt", fn := fun _ => fun
  | [d1, d2, d3, d4, d5, d6] => { results := [.lit (.bool true)], args := [d1, d2, d3, d4, d5, d6] }
  | _ => none }
def fnExactHitAtRow : OpenClaim := { program := "ytmbkipogmaimaaagreatdoor", sum := "6408d82c65e6d56f4fc31e6c8e7bbc7826099fb8a8bdefb49b2dfa649d75ce79", func := "loop.example/drawnanew/laws.FnExactHitAt", spec := "fnExactHitAt", recurses := true, named := ["strconv.ErrSyntax", "strconv.ErrRange", "internal/strconv.uint64pow10", "math/bits.deBruijn32tab", "math/bits.deBruijn64tab"], loops := true, apart := false, laid := [("math/bits.deBruijn32tab", laid_math_bits_deBruijn32tab), ("math/bits.deBruijn64tab", laid_math_bits_deBruijn64tab), ("internal/strconv.uint64pow10", laid_internal_strconv_uint64pow10), ("strconv.ErrRange", laid_strconv_ErrRange), ("strconv.ErrSyntax", laid_strconv_ErrSyntax)] }
def FnExactHitAtSaid : Prop := fnExactHitAtRow.holds Tryz.pinned (OpenSpec.ofChange fnExactHitAtSpec)

/-- ITS FALSE NEIGHBOUR: 'it returns false'. Refute it at one input. -/
def fnExactHitAtWrong : ChangeSpec := { name := "fnExactHitAt", fn := fun _ => fun
  | [d1, d2, d3, d4, d5, d6] => { results := [.lit (.bool false)], args := [d1, d2, d3, d4, d5, d6] }
  | _ => none }
def FnExactHitAtWrongFalsely : Prop := fnExactHitAtRow.holds Tryz.pinned (OpenSpec.ofChange fnExactHitAtWrong)

/-- 'laws.FnDamageAlone': WHATEVER THE INPUT: true; the input reads as it did. -/
def fnDamageAloneSpec : ChangeSpec := { name := "fnDamageAlone", fn := fun _ => fun
  | [d] => { results := [.lit (.bool true)], args := [d] }
  | _ => none }
def fnDamageAloneRow : OpenClaim := { program := "ytmbkipogmaimaaagreatdoor", sum := "6408d82c65e6d56f4fc31e6c8e7bbc7826099fb8a8bdefb49b2dfa649d75ce79", func := "loop.example/drawnanew/laws.FnDamageAlone", spec := "fnDamageAlone", recurses := true, named := ["strconv.ErrSyntax", "strconv.ErrRange", "internal/strconv.uint64pow10", "math/bits.deBruijn32tab", "math/bits.deBruijn64tab"], apart := false, laid := [("math/bits.deBruijn32tab", laid_math_bits_deBruijn32tab), ("math/bits.deBruijn64tab", laid_math_bits_deBruijn64tab), ("internal/strconv.uint64pow10", laid_internal_strconv_uint64pow10), ("strconv.ErrRange", laid_strconv_ErrRange), ("strconv.ErrSyntax", laid_strconv_ErrSyntax)] }
def FnDamageAloneSaid : Prop := fnDamageAloneRow.holds Tryz.pinned (OpenSpec.ofChange fnDamageAloneSpec)

/-- ITS FALSE NEIGHBOUR: 'it returns false'. Refute it at one input. -/
def fnDamageAloneWrong : ChangeSpec := { name := "fnDamageAlone", fn := fun _ => fun
  | [d] => { results := [.lit (.bool false)], args := [d] }
  | _ => none }
def FnDamageAloneWrongFalsely : Prop := fnDamageAloneRow.holds Tryz.pinned (OpenSpec.ofChange fnDamageAloneWrong)

/-- 'laws.FnTreePatched': WHATEVER THE INPUT: true; the input reads as it did. -/
def fnTreePatchedSpec : ChangeSpec := { name := "fnTreePatched", fn := fun _ => fun
  | [d] => { results := [.lit (.bool true)], args := [d] }
  | _ => none }
def fnTreePatchedRow : OpenClaim := { program := "ytmbkipogmaimaaagreatdoor", sum := "6408d82c65e6d56f4fc31e6c8e7bbc7826099fb8a8bdefb49b2dfa649d75ce79", func := "loop.example/drawnanew/laws.FnTreePatched", spec := "fnTreePatched", inPlace := ["slices.overlaps[loop.example/drawnanew/impl.Prop]", "slices.overlaps[loop.example/drawnanew/impl.Tree]"], unfollowed := true, recurses := true, named := ["strconv.ErrSyntax", "strconv.ErrRange", "internal/strconv.uint64pow10", "math/bits.deBruijn32tab", "math/bits.deBruijn64tab"], apart := false, laid := [("math/bits.deBruijn32tab", laid_math_bits_deBruijn32tab), ("math/bits.deBruijn64tab", laid_math_bits_deBruijn64tab), ("internal/strconv.uint64pow10", laid_internal_strconv_uint64pow10), ("strconv.ErrRange", laid_strconv_ErrRange), ("strconv.ErrSyntax", laid_strconv_ErrSyntax)] }
def FnTreePatchedSaid : Prop := fnTreePatchedRow.holds Tryz.pinned (OpenSpec.ofChange fnTreePatchedSpec)

/-- ITS FALSE NEIGHBOUR: 'it returns false'. Refute it at one input. -/
def fnTreePatchedWrong : ChangeSpec := { name := "fnTreePatched", fn := fun _ => fun
  | [d] => { results := [.lit (.bool false)], args := [d] }
  | _ => none }
def FnTreePatchedWrongFalsely : Prop := fnTreePatchedRow.holds Tryz.pinned (OpenSpec.ofChange fnTreePatchedWrong)

/-- 'laws.FnExactBoxesOf': WHATEVER THE INPUT: true; the input reads as it did. -/
def fnExactBoxesOfSpec : ChangeSpec := { name := "fnExactBoxesOf", fn := fun _ => fun
  | [d1, d2, d3] => { results := [.lit (.bool true)], args := [d1, d2, d3] }
  | _ => none }
def fnExactBoxesOfRow : OpenClaim := { program := "ytmbkipogmaimaaagreatdoor", sum := "6408d82c65e6d56f4fc31e6c8e7bbc7826099fb8a8bdefb49b2dfa649d75ce79", func := "loop.example/drawnanew/laws.FnExactBoxesOf", spec := "fnExactBoxesOf", recurses := true, named := ["strconv.ErrSyntax", "strconv.ErrRange", "internal/strconv.uint64pow10", "math/bits.deBruijn32tab", "math/bits.deBruijn64tab"], loops := true, apart := false, laid := [("math/bits.deBruijn32tab", laid_math_bits_deBruijn32tab), ("math/bits.deBruijn64tab", laid_math_bits_deBruijn64tab), ("internal/strconv.uint64pow10", laid_internal_strconv_uint64pow10), ("strconv.ErrRange", laid_strconv_ErrRange), ("strconv.ErrSyntax", laid_strconv_ErrSyntax)] }
def FnExactBoxesOfSaid : Prop := fnExactBoxesOfRow.holds Tryz.pinned (OpenSpec.ofChange fnExactBoxesOfSpec)

/-- ITS FALSE NEIGHBOUR: 'it returns false'. Refute it at one input. -/
def fnExactBoxesOfWrong : ChangeSpec := { name := "fnExactBoxesOf", fn := fun _ => fun
  | [d1, d2, d3] => { results := [.lit (.bool false)], args := [d1, d2, d3] }
  | _ => none }
def FnExactBoxesOfWrongFalsely : Prop := fnExactBoxesOfRow.holds Tryz.pinned (OpenSpec.ofChange fnExactBoxesOfWrong)

/-- 'laws.FnBoxesMoved': WHATEVER THE INPUT: true; the input reads as it did. -/
def fnBoxesMovedSpec : ChangeSpec := { name := "fnBoxesMoved", fn := fun _ => fun
  | [d] => { results := [.lit (.bool true)], args := [d] }
  | _ => none }
def fnBoxesMovedRow : OpenClaim := { program := "ytmbkipogmaimaaagreatdoor", sum := "6408d82c65e6d56f4fc31e6c8e7bbc7826099fb8a8bdefb49b2dfa649d75ce79", func := "loop.example/drawnanew/laws.FnBoxesMoved", spec := "fnBoxesMoved", recurses := true, named := ["strconv.ErrSyntax", "strconv.ErrRange", "internal/strconv.uint64pow10", "math/bits.deBruijn32tab", "math/bits.deBruijn64tab"], apart := false, laid := [("math/bits.deBruijn32tab", laid_math_bits_deBruijn32tab), ("math/bits.deBruijn64tab", laid_math_bits_deBruijn64tab), ("internal/strconv.uint64pow10", laid_internal_strconv_uint64pow10), ("strconv.ErrRange", laid_strconv_ErrRange), ("strconv.ErrSyntax", laid_strconv_ErrSyntax)] }
def FnBoxesMovedSaid : Prop := fnBoxesMovedRow.holds Tryz.pinned (OpenSpec.ofChange fnBoxesMovedSpec)

/-- ITS FALSE NEIGHBOUR: 'it returns false'. Refute it at one input. -/
def fnBoxesMovedWrong : ChangeSpec := { name := "fnBoxesMoved", fn := fun _ => fun
  | [d] => { results := [.lit (.bool false)], args := [d] }
  | _ => none }
def FnBoxesMovedWrongFalsely : Prop := fnBoxesMovedRow.holds Tryz.pinned (OpenSpec.ofChange fnBoxesMovedWrong)

/-- 'laws.FnExactDamageOf': WHATEVER THE INPUT: true; the input reads as it did. -/
def fnExactDamageOfSpec : ChangeSpec := { name := "fnExactDamageOf", fn := fun _ => fun
  | [d1, d2, d3, d4, d5] => { results := [.lit (.bool true)], args := [d1, d2, d3, d4, d5] }
  | _ => none }
def fnExactDamageOfRow : OpenClaim := { program := "ytmbkipogmaimaaagreatdoor", sum := "6408d82c65e6d56f4fc31e6c8e7bbc7826099fb8a8bdefb49b2dfa649d75ce79", func := "loop.example/drawnanew/laws.FnExactDamageOf", spec := "fnExactDamageOf", recurses := true, named := ["strconv.ErrSyntax", "strconv.ErrRange", "internal/strconv.uint64pow10", "math/bits.deBruijn32tab", "math/bits.deBruijn64tab"], loops := true, apart := false, laid := [("math/bits.deBruijn32tab", laid_math_bits_deBruijn32tab), ("math/bits.deBruijn64tab", laid_math_bits_deBruijn64tab), ("internal/strconv.uint64pow10", laid_internal_strconv_uint64pow10), ("strconv.ErrRange", laid_strconv_ErrRange), ("strconv.ErrSyntax", laid_strconv_ErrSyntax)] }
def FnExactDamageOfSaid : Prop := fnExactDamageOfRow.holds Tryz.pinned (OpenSpec.ofChange fnExactDamageOfSpec)

/-- ITS FALSE NEIGHBOUR: 'it returns false'. Refute it at one input. -/
def fnExactDamageOfWrong : ChangeSpec := { name := "fnExactDamageOf", fn := fun _ => fun
  | [d1, d2, d3, d4, d5] => { results := [.lit (.bool false)], args := [d1, d2, d3, d4, d5] }
  | _ => none }
def FnExactDamageOfWrongFalsely : Prop := fnExactDamageOfRow.holds Tryz.pinned (OpenSpec.ofChange fnExactDamageOfWrong)

/-- 'laws.FnOutline': WHATEVER THE INPUT: true; the input reads as it did. -/
def fnOutlineSpec : ChangeSpec := { name := "fnOutline", fn := fun _ => fun
  | [d] => { results := [.lit (.bool true)], args := [d] }
  | _ => none }
def fnOutlineRow : OpenClaim := { program := "ytmbkipogmaimaaagreatdoor", sum := "6408d82c65e6d56f4fc31e6c8e7bbc7826099fb8a8bdefb49b2dfa649d75ce79", func := "loop.example/drawnanew/laws.FnOutline", spec := "fnOutline", inPlace := ["internal/abi.NoEscape", "internal/bytealg.MakeNoZero", "internal/bytealg.IndexByteString", "internal/bytealg.IndexString"], recurses := true, named := ["strconv.ErrSyntax", "strconv.ErrRange", "internal/strconv.uint64pow10", "math/bits.deBruijn32tab", "math/bits.deBruijn64tab", "unicode/utf8.first", "unicode/utf8.acceptRanges", "internal/bytealg.MaxLen"], apart := false, laid := [("math/bits.deBruijn32tab", laid_math_bits_deBruijn32tab), ("math/bits.deBruijn64tab", laid_math_bits_deBruijn64tab), ("internal/strconv.uint64pow10", laid_internal_strconv_uint64pow10), ("unicode/utf8.acceptRanges", laid_unicode_utf8_acceptRanges), ("strconv.ErrRange", laid_strconv_ErrRange), ("strconv.ErrSyntax", laid_strconv_ErrSyntax), ("unicode/utf8.first", laid_unicode_utf8_first)] }
def FnOutlineSaid : Prop := fnOutlineRow.holds Tryz.pinned (OpenSpec.ofChange fnOutlineSpec)

/-- ITS FALSE NEIGHBOUR: 'it returns false'. Refute it at one input. -/
def fnOutlineWrong : ChangeSpec := { name := "fnOutline", fn := fun _ => fun
  | [d] => { results := [.lit (.bool false)], args := [d] }
  | _ => none }
def FnOutlineWrongFalsely : Prop := fnOutlineRow.holds Tryz.pinned (OpenSpec.ofChange fnOutlineWrong)

/-- 'laws.FnTreeEdits': WHATEVER THE INPUT: true; the input reads as it did. -/
def fnTreeEditsSpec : ChangeSpec := { name := "fnTreeEdits", fn := fun _ => fun
  | [d] => { results := [.lit (.bool true)], args := [d] }
  | _ => none }
def fnTreeEditsRow : OpenClaim := { program := "ytmbkipogmaimaaagreatdoor", sum := "6408d82c65e6d56f4fc31e6c8e7bbc7826099fb8a8bdefb49b2dfa649d75ce79", func := "loop.example/drawnanew/laws.FnTreeEdits", spec := "fnTreeEdits", inPlace := ["slices.overlaps[int]", "slices.overlaps[loop.example/drawnanew/impl.Prop]", "slices.overlaps[loop.example/drawnanew/impl.Tree]"], unfollowed := true, recurses := true, named := ["strconv.ErrSyntax", "strconv.ErrRange", "internal/strconv.uint64pow10", "math/bits.deBruijn32tab", "math/bits.deBruijn64tab"], apart := false, laid := [("math/bits.deBruijn32tab", laid_math_bits_deBruijn32tab), ("math/bits.deBruijn64tab", laid_math_bits_deBruijn64tab), ("internal/strconv.uint64pow10", laid_internal_strconv_uint64pow10), ("strconv.ErrRange", laid_strconv_ErrRange), ("strconv.ErrSyntax", laid_strconv_ErrSyntax)] }
def FnTreeEditsSaid : Prop := fnTreeEditsRow.holds Tryz.pinned (OpenSpec.ofChange fnTreeEditsSpec)

/-- ITS FALSE NEIGHBOUR: 'it returns false'. Refute it at one input. -/
def fnTreeEditsWrong : ChangeSpec := { name := "fnTreeEdits", fn := fun _ => fun
  | [d] => { results := [.lit (.bool false)], args := [d] }
  | _ => none }
def FnTreeEditsWrongFalsely : Prop := fnTreeEditsRow.holds Tryz.pinned (OpenSpec.ofChange fnTreeEditsWrong)

/- THE SECOND FORM. 'bulk': how many values and letters a reading holds, each counted each time it is reached (what is shared counts as often as it is met; a slice's spare places count too). A statement '..UptoSaid' is the law's where the arguments, and the package variables that the reading takes, are together of bulk at most 1048576: NARROWER than '..Said'. Prove '..Said' where nothing that the law and all that it calls make is longer than what came in: it says more and counts as full. Else prove '..UptoSaid'. A law counts once. -/
mutual
def uptoBulk {H : Type} : DataW H → Nat
  | .lit (.string bytes) => bytes.length + 1
  | .lit _ => 1
  | .nil => 1
  | .ptr d => uptoBulk d + 1
  | .slice elems spare => uptoBulkAll elems + uptoBulkAll spare + 1
  | .agg parts => uptoBulkAll parts + 1
  | .iface _ d => uptoBulk d + 1
  | .map entries => uptoBulkEntries entries + 1
  | .held _ => 1
def uptoBulkAll {H : Type} : List (DataW H) → Nat
  | [] => 0
  | d :: r => uptoBulk d + uptoBulkAll r
def uptoBulkEntries {H : Type} : List (Lit × DataW H) → Nat
  | [] => 0
  | x :: r => uptoBulkEntry x + uptoBulkEntries r
def uptoBulkEntry {H : Type} : Lit × DataW H → Nat
  | (.string bytes, d) => bytes.length + uptoBulk d + 1
  | (_, d) => uptoBulk d + 1
 end
def uptoSmall : (H : Type) → List (DataW H) → Bool := fun _ ds => decide (uptoBulkAll ds ≤ 1048576)
def OpenSpec.upto (s : _root_.Go.ChangeSpec) : _root_.Go.OpenSpec := { _root_.Go.OpenSpec.ofChange s with cond := some uptoSmall }

/-- 'laws.FnRepaint', WHERE WHAT IT READS IS OF BULK AT MOST 1048576: true; the input reads as it did. -/
def fnRepaintUptoRow : OpenClaim := { program := "ytmbkipogmaimaaagreatdoor", sum := "6408d82c65e6d56f4fc31e6c8e7bbc7826099fb8a8bdefb49b2dfa649d75ce79", func := "loop.example/drawnanew/laws.FnRepaint", spec := "fnRepaint", recurses := true, named := ["strconv.ErrSyntax", "strconv.ErrRange", "internal/strconv.uint64pow10", "math/bits.deBruijn32tab", "math/bits.deBruijn64tab"], apart := false, laid := [("math/bits.deBruijn32tab", laid_math_bits_deBruijn32tab), ("math/bits.deBruijn64tab", laid_math_bits_deBruijn64tab), ("internal/strconv.uint64pow10", laid_internal_strconv_uint64pow10), ("strconv.ErrRange", laid_strconv_ErrRange), ("strconv.ErrSyntax", laid_strconv_ErrSyntax)], narrowed := true }
def FnRepaintUptoSaid : Prop := fnRepaintUptoRow.holds Tryz.pinned (OpenSpec.upto fnRepaintSpec)

/-- 'laws.FnKeysStay', WHERE WHAT IT READS IS OF BULK AT MOST 1048576: true; the input reads as it did. -/
def fnKeysStayUptoRow : OpenClaim := { program := "ytmbkipogmaimaaagreatdoor", sum := "6408d82c65e6d56f4fc31e6c8e7bbc7826099fb8a8bdefb49b2dfa649d75ce79", func := "loop.example/drawnanew/laws.FnKeysStay", spec := "fnKeysStay", recurses := true, named := ["internal/strconv.uint64pow10", "math/bits.deBruijn32tab", "math/bits.deBruijn64tab"], apart := false, laid := [("math/bits.deBruijn32tab", laid_math_bits_deBruijn32tab), ("math/bits.deBruijn64tab", laid_math_bits_deBruijn64tab), ("internal/strconv.uint64pow10", laid_internal_strconv_uint64pow10)], narrowed := true }
def FnKeysStayUptoSaid : Prop := fnKeysStayUptoRow.holds Tryz.pinned (OpenSpec.upto fnKeysStaySpec)

/-- 'laws.FnDamageOf', WHERE WHAT IT READS IS OF BULK AT MOST 1048576: true; the input reads as it did. -/
def fnDamageOfUptoRow : OpenClaim := { program := "ytmbkipogmaimaaagreatdoor", sum := "6408d82c65e6d56f4fc31e6c8e7bbc7826099fb8a8bdefb49b2dfa649d75ce79", func := "loop.example/drawnanew/laws.FnDamageOf", spec := "fnDamageOf", recurses := true, named := ["strconv.ErrSyntax", "strconv.ErrRange", "internal/strconv.uint64pow10", "math/bits.deBruijn32tab", "math/bits.deBruijn64tab"], apart := false, laid := [("math/bits.deBruijn32tab", laid_math_bits_deBruijn32tab), ("math/bits.deBruijn64tab", laid_math_bits_deBruijn64tab), ("internal/strconv.uint64pow10", laid_internal_strconv_uint64pow10), ("strconv.ErrRange", laid_strconv_ErrRange), ("strconv.ErrSyntax", laid_strconv_ErrSyntax)], narrowed := true }
def FnDamageOfUptoSaid : Prop := fnDamageOfUptoRow.holds Tryz.pinned (OpenSpec.upto fnDamageOfSpec)

/-- 'laws.FnExactHitAt', WHERE WHAT IT READS IS OF BULK AT MOST 1048576: true; the input reads as it did. -/
def fnExactHitAtUptoRow : OpenClaim := { program := "ytmbkipogmaimaaagreatdoor", sum := "6408d82c65e6d56f4fc31e6c8e7bbc7826099fb8a8bdefb49b2dfa649d75ce79", func := "loop.example/drawnanew/laws.FnExactHitAt", spec := "fnExactHitAt", recurses := true, named := ["strconv.ErrSyntax", "strconv.ErrRange", "internal/strconv.uint64pow10", "math/bits.deBruijn32tab", "math/bits.deBruijn64tab"], loops := true, apart := false, laid := [("math/bits.deBruijn32tab", laid_math_bits_deBruijn32tab), ("math/bits.deBruijn64tab", laid_math_bits_deBruijn64tab), ("internal/strconv.uint64pow10", laid_internal_strconv_uint64pow10), ("strconv.ErrRange", laid_strconv_ErrRange), ("strconv.ErrSyntax", laid_strconv_ErrSyntax)], narrowed := true }
def FnExactHitAtUptoSaid : Prop := fnExactHitAtUptoRow.holds Tryz.pinned (OpenSpec.upto fnExactHitAtSpec)

/-- 'laws.FnDamageAlone', WHERE WHAT IT READS IS OF BULK AT MOST 1048576: true; the input reads as it did. -/
def fnDamageAloneUptoRow : OpenClaim := { program := "ytmbkipogmaimaaagreatdoor", sum := "6408d82c65e6d56f4fc31e6c8e7bbc7826099fb8a8bdefb49b2dfa649d75ce79", func := "loop.example/drawnanew/laws.FnDamageAlone", spec := "fnDamageAlone", recurses := true, named := ["strconv.ErrSyntax", "strconv.ErrRange", "internal/strconv.uint64pow10", "math/bits.deBruijn32tab", "math/bits.deBruijn64tab"], apart := false, laid := [("math/bits.deBruijn32tab", laid_math_bits_deBruijn32tab), ("math/bits.deBruijn64tab", laid_math_bits_deBruijn64tab), ("internal/strconv.uint64pow10", laid_internal_strconv_uint64pow10), ("strconv.ErrRange", laid_strconv_ErrRange), ("strconv.ErrSyntax", laid_strconv_ErrSyntax)], narrowed := true }
def FnDamageAloneUptoSaid : Prop := fnDamageAloneUptoRow.holds Tryz.pinned (OpenSpec.upto fnDamageAloneSpec)

/-- 'laws.FnTreePatched', WHERE WHAT IT READS IS OF BULK AT MOST 1048576: true; the input reads as it did. -/
def fnTreePatchedUptoRow : OpenClaim := { program := "ytmbkipogmaimaaagreatdoor", sum := "6408d82c65e6d56f4fc31e6c8e7bbc7826099fb8a8bdefb49b2dfa649d75ce79", func := "loop.example/drawnanew/laws.FnTreePatched", spec := "fnTreePatched", inPlace := ["slices.overlaps[loop.example/drawnanew/impl.Prop]", "slices.overlaps[loop.example/drawnanew/impl.Tree]"], unfollowed := true, recurses := true, named := ["strconv.ErrSyntax", "strconv.ErrRange", "internal/strconv.uint64pow10", "math/bits.deBruijn32tab", "math/bits.deBruijn64tab"], apart := false, laid := [("math/bits.deBruijn32tab", laid_math_bits_deBruijn32tab), ("math/bits.deBruijn64tab", laid_math_bits_deBruijn64tab), ("internal/strconv.uint64pow10", laid_internal_strconv_uint64pow10), ("strconv.ErrRange", laid_strconv_ErrRange), ("strconv.ErrSyntax", laid_strconv_ErrSyntax)], narrowed := true }
def FnTreePatchedUptoSaid : Prop := fnTreePatchedUptoRow.holds Tryz.pinned (OpenSpec.upto fnTreePatchedSpec)

/-- 'laws.FnExactBoxesOf', WHERE WHAT IT READS IS OF BULK AT MOST 1048576: true; the input reads as it did. -/
def fnExactBoxesOfUptoRow : OpenClaim := { program := "ytmbkipogmaimaaagreatdoor", sum := "6408d82c65e6d56f4fc31e6c8e7bbc7826099fb8a8bdefb49b2dfa649d75ce79", func := "loop.example/drawnanew/laws.FnExactBoxesOf", spec := "fnExactBoxesOf", recurses := true, named := ["strconv.ErrSyntax", "strconv.ErrRange", "internal/strconv.uint64pow10", "math/bits.deBruijn32tab", "math/bits.deBruijn64tab"], loops := true, apart := false, laid := [("math/bits.deBruijn32tab", laid_math_bits_deBruijn32tab), ("math/bits.deBruijn64tab", laid_math_bits_deBruijn64tab), ("internal/strconv.uint64pow10", laid_internal_strconv_uint64pow10), ("strconv.ErrRange", laid_strconv_ErrRange), ("strconv.ErrSyntax", laid_strconv_ErrSyntax)], narrowed := true }
def FnExactBoxesOfUptoSaid : Prop := fnExactBoxesOfUptoRow.holds Tryz.pinned (OpenSpec.upto fnExactBoxesOfSpec)

/-- 'laws.FnBoxesMoved', WHERE WHAT IT READS IS OF BULK AT MOST 1048576: true; the input reads as it did. -/
def fnBoxesMovedUptoRow : OpenClaim := { program := "ytmbkipogmaimaaagreatdoor", sum := "6408d82c65e6d56f4fc31e6c8e7bbc7826099fb8a8bdefb49b2dfa649d75ce79", func := "loop.example/drawnanew/laws.FnBoxesMoved", spec := "fnBoxesMoved", recurses := true, named := ["strconv.ErrSyntax", "strconv.ErrRange", "internal/strconv.uint64pow10", "math/bits.deBruijn32tab", "math/bits.deBruijn64tab"], apart := false, laid := [("math/bits.deBruijn32tab", laid_math_bits_deBruijn32tab), ("math/bits.deBruijn64tab", laid_math_bits_deBruijn64tab), ("internal/strconv.uint64pow10", laid_internal_strconv_uint64pow10), ("strconv.ErrRange", laid_strconv_ErrRange), ("strconv.ErrSyntax", laid_strconv_ErrSyntax)], narrowed := true }
def FnBoxesMovedUptoSaid : Prop := fnBoxesMovedUptoRow.holds Tryz.pinned (OpenSpec.upto fnBoxesMovedSpec)

/-- 'laws.FnExactDamageOf', WHERE WHAT IT READS IS OF BULK AT MOST 1048576: true; the input reads as it did. -/
def fnExactDamageOfUptoRow : OpenClaim := { program := "ytmbkipogmaimaaagreatdoor", sum := "6408d82c65e6d56f4fc31e6c8e7bbc7826099fb8a8bdefb49b2dfa649d75ce79", func := "loop.example/drawnanew/laws.FnExactDamageOf", spec := "fnExactDamageOf", recurses := true, named := ["strconv.ErrSyntax", "strconv.ErrRange", "internal/strconv.uint64pow10", "math/bits.deBruijn32tab", "math/bits.deBruijn64tab"], loops := true, apart := false, laid := [("math/bits.deBruijn32tab", laid_math_bits_deBruijn32tab), ("math/bits.deBruijn64tab", laid_math_bits_deBruijn64tab), ("internal/strconv.uint64pow10", laid_internal_strconv_uint64pow10), ("strconv.ErrRange", laid_strconv_ErrRange), ("strconv.ErrSyntax", laid_strconv_ErrSyntax)], narrowed := true }
def FnExactDamageOfUptoSaid : Prop := fnExactDamageOfUptoRow.holds Tryz.pinned (OpenSpec.upto fnExactDamageOfSpec)

/-- 'laws.FnOutline', WHERE WHAT IT READS IS OF BULK AT MOST 1048576: true; the input reads as it did. -/
def fnOutlineUptoRow : OpenClaim := { program := "ytmbkipogmaimaaagreatdoor", sum := "6408d82c65e6d56f4fc31e6c8e7bbc7826099fb8a8bdefb49b2dfa649d75ce79", func := "loop.example/drawnanew/laws.FnOutline", spec := "fnOutline", inPlace := ["internal/abi.NoEscape", "internal/bytealg.MakeNoZero", "internal/bytealg.IndexByteString", "internal/bytealg.IndexString"], recurses := true, named := ["strconv.ErrSyntax", "strconv.ErrRange", "internal/strconv.uint64pow10", "math/bits.deBruijn32tab", "math/bits.deBruijn64tab", "unicode/utf8.first", "unicode/utf8.acceptRanges", "internal/bytealg.MaxLen"], apart := false, laid := [("math/bits.deBruijn32tab", laid_math_bits_deBruijn32tab), ("math/bits.deBruijn64tab", laid_math_bits_deBruijn64tab), ("internal/strconv.uint64pow10", laid_internal_strconv_uint64pow10), ("unicode/utf8.acceptRanges", laid_unicode_utf8_acceptRanges), ("strconv.ErrRange", laid_strconv_ErrRange), ("strconv.ErrSyntax", laid_strconv_ErrSyntax), ("unicode/utf8.first", laid_unicode_utf8_first)], narrowed := true }
def FnOutlineUptoSaid : Prop := fnOutlineUptoRow.holds Tryz.pinned (OpenSpec.upto fnOutlineSpec)

/-- 'laws.FnTreeEdits', WHERE WHAT IT READS IS OF BULK AT MOST 1048576: true; the input reads as it did. -/
def fnTreeEditsUptoRow : OpenClaim := { program := "ytmbkipogmaimaaagreatdoor", sum := "6408d82c65e6d56f4fc31e6c8e7bbc7826099fb8a8bdefb49b2dfa649d75ce79", func := "loop.example/drawnanew/laws.FnTreeEdits", spec := "fnTreeEdits", inPlace := ["slices.overlaps[int]", "slices.overlaps[loop.example/drawnanew/impl.Prop]", "slices.overlaps[loop.example/drawnanew/impl.Tree]"], unfollowed := true, recurses := true, named := ["strconv.ErrSyntax", "strconv.ErrRange", "internal/strconv.uint64pow10", "math/bits.deBruijn32tab", "math/bits.deBruijn64tab"], apart := false, laid := [("math/bits.deBruijn32tab", laid_math_bits_deBruijn32tab), ("math/bits.deBruijn64tab", laid_math_bits_deBruijn64tab), ("internal/strconv.uint64pow10", laid_internal_strconv_uint64pow10), ("strconv.ErrRange", laid_strconv_ErrRange), ("strconv.ErrSyntax", laid_strconv_ErrSyntax)], narrowed := true }
def FnTreeEditsUptoSaid : Prop := fnTreeEditsUptoRow.holds Tryz.pinned (OpenSpec.upto fnTreeEditsSpec)

end Rows
end Go.Proofs.YtmbkipogmaimaaaGreatDoor
