/-
  NARROWER THAN 'FOR EVERY INPUT', by the rows' own cells (each row's printed sentence says how): WatchPlays: laid · WatchNone: laid · WatchSums: laid · StackLast: laid · StackCommits: laid · StackSealed: laid · StackUndoes: laid · PreviewNeeds: laid · PreviewTells: laid · PreviewTouches: laid · PreviewComes: laid.
  DERIVED. THE GIVEN ROWS OF THIS SEAT. 11 by the template 'for every input the law returns true; each argument reads behind the call as it read before'; 0 by the template 'total and deterministic' (their statements: YtnbgkhdcidbkaaaGreatDoorTotals.lean).
  GIVEN WITH THE SEED: the statements are not yours to turn. If you find one false, say at which input.
  Laid BY PROGRAM, IN A SANDBOX (cutbox-rows.mjs): the forced cells as the released guide's own fill.sh prints them over the translation f6051e14e4d7bc78… (all of the seat's roots in one cut). By AI agents, Wed Nov 11 2026. No macro, syntax, notation, axiom, sorry.
-/
import Derived.Test.YtnbgkhdcidbkaaaGreatDoorChecked
import GoSem.PinnedTables
import GoSem.Claim
import GoSem.ClaimJoined
import GoSem.ClaimMapViews
import Derived.JoinedTies
import Derived.KernelRfl
namespace Go.Proofs.YtnbgkhdcidbkaaaGreatDoor
/- THE CELL 'sum', in the pinned program and in every row, IS THE sha256 OF THE DUMP (.gsa) THAT YtnbgkhdcidbkaaaGreatDoorProg.lean LOADS. Nothing in Lean hashes anything: it is a label: what it is worth is what the hold of that sum in a sandbox is worth. -/
noncomputable def Tryz.pinned : Pinned := { name := "ytnbgkhdcidbkaaagreatdoor", sum := "f6051e14e4d7bc7880ca3c61385e4c9ce364ca84e7c0c81987502f21af2b5f6d", checked := Tryz.checked }
namespace Rows
def none {H : Type} : Left H := { results := [], args := [] }

/- WHAT THE LISTED PACKAGE-LEVEL VARIABLES READ AS WHEN THE CALL BEGINS. Each datum BY PROGRAM (the guide's laid-datum.mjs) off the statement by which the dump's own 'gosem.cut.vars' lays the variable. In a bare row this is a premise. The card (YtnbgkhdcidbkaaaGreatDoorCards.lean) ties it to the program's text. -/
def laid_unicode_utf8_acceptRanges {H : Type} : DataW H := .agg [.agg [.lit (.int .u8 128), .lit (.int .u8 191)], .agg [.lit (.int .u8 160), .lit (.int .u8 191)], .agg [.lit (.int .u8 128), .lit (.int .u8 159)], .agg [.lit (.int .u8 144), .lit (.int .u8 191)], .agg [.lit (.int .u8 128), .lit (.int .u8 143)], .agg [.lit (.int .u8 0), .lit (.int .u8 0)], .agg [.lit (.int .u8 0), .lit (.int .u8 0)], .agg [.lit (.int .u8 0), .lit (.int .u8 0)], .agg [.lit (.int .u8 0), .lit (.int .u8 0)], .agg [.lit (.int .u8 0), .lit (.int .u8 0)], .agg [.lit (.int .u8 0), .lit (.int .u8 0)], .agg [.lit (.int .u8 0), .lit (.int .u8 0)], .agg [.lit (.int .u8 0), .lit (.int .u8 0)], .agg [.lit (.int .u8 0), .lit (.int .u8 0)], .agg [.lit (.int .u8 0), .lit (.int .u8 0)], .agg [.lit (.int .u8 0), .lit (.int .u8 0)]]
/-- One of Go's own tables, pinned by name: the form's constant. -/
def laid_unicode_utf8_first : DataW Unit := Go.Pinned.utf8First
def laid_math_bits_deBruijn32tab {H : Type} : DataW H := .agg [.lit (.int .u8 0), .lit (.int .u8 1), .lit (.int .u8 28), .lit (.int .u8 2), .lit (.int .u8 29), .lit (.int .u8 14), .lit (.int .u8 24), .lit (.int .u8 3), .lit (.int .u8 30), .lit (.int .u8 22), .lit (.int .u8 20), .lit (.int .u8 15), .lit (.int .u8 25), .lit (.int .u8 17), .lit (.int .u8 4), .lit (.int .u8 8), .lit (.int .u8 31), .lit (.int .u8 27), .lit (.int .u8 13), .lit (.int .u8 23), .lit (.int .u8 21), .lit (.int .u8 19), .lit (.int .u8 16), .lit (.int .u8 7), .lit (.int .u8 26), .lit (.int .u8 12), .lit (.int .u8 18), .lit (.int .u8 6), .lit (.int .u8 11), .lit (.int .u8 5), .lit (.int .u8 10), .lit (.int .u8 9)]
def laid_math_bits_deBruijn64tab {H : Type} : DataW H := .agg [.lit (.int .u8 0), .lit (.int .u8 1), .lit (.int .u8 56), .lit (.int .u8 2), .lit (.int .u8 57), .lit (.int .u8 49), .lit (.int .u8 28), .lit (.int .u8 3), .lit (.int .u8 61), .lit (.int .u8 58), .lit (.int .u8 42), .lit (.int .u8 50), .lit (.int .u8 38), .lit (.int .u8 29), .lit (.int .u8 17), .lit (.int .u8 4), .lit (.int .u8 62), .lit (.int .u8 47), .lit (.int .u8 59), .lit (.int .u8 36), .lit (.int .u8 45), .lit (.int .u8 43), .lit (.int .u8 51), .lit (.int .u8 22), .lit (.int .u8 53), .lit (.int .u8 39), .lit (.int .u8 33), .lit (.int .u8 30), .lit (.int .u8 24), .lit (.int .u8 18), .lit (.int .u8 12), .lit (.int .u8 5), .lit (.int .u8 63), .lit (.int .u8 55), .lit (.int .u8 48), .lit (.int .u8 27), .lit (.int .u8 60), .lit (.int .u8 41), .lit (.int .u8 37), .lit (.int .u8 16), .lit (.int .u8 46), .lit (.int .u8 35), .lit (.int .u8 44), .lit (.int .u8 21), .lit (.int .u8 52), .lit (.int .u8 32), .lit (.int .u8 23), .lit (.int .u8 11), .lit (.int .u8 54), .lit (.int .u8 26), .lit (.int .u8 40), .lit (.int .u8 15), .lit (.int .u8 34), .lit (.int .u8 20), .lit (.int .u8 31), .lit (.int .u8 10), .lit (.int .u8 25), .lit (.int .u8 14), .lit (.int .u8 19), .lit (.int .u8 9), .lit (.int .u8 13), .lit (.int .u8 8), .lit (.int .u8 7), .lit (.int .u8 6)]
def laid_internal_strconv_uint64pow10 {H : Type} : DataW H := .agg [.lit (.int .u64 1), .lit (.int .u64 10), .lit (.int .u64 100), .lit (.int .u64 1000), .lit (.int .u64 10000), .lit (.int .u64 100000), .lit (.int .u64 1000000), .lit (.int .u64 10000000), .lit (.int .u64 100000000), .lit (.int .u64 1000000000), .lit (.int .u64 10000000000), .lit (.int .u64 100000000000), .lit (.int .u64 1000000000000), .lit (.int .u64 10000000000000), .lit (.int .u64 100000000000000), .lit (.int .u64 1000000000000000), .lit (.int .u64 10000000000000000), .lit (.int .u64 100000000000000000), .lit (.int .u64 1000000000000000000), .lit (.int .u64 10000000000000000000)]

/-- 'palinodelaw43.WatchPlays': WHATEVER THE INPUT: true; the input reads as it did. -/
def watchPlaysSpec : ChangeSpec := { name := "watchPlays", fn := fun _ => fun
  | [d1, d2, d3] => { results := [.lit (.bool true)], args := [d1, d2, d3] }
  | _ => none }
def watchPlaysRow : OpenClaim := { program := "ytnbgkhdcidbkaaagreatdoor", sum := "f6051e14e4d7bc7880ca3c61385e4c9ce364ca84e7c0c81987502f21af2b5f6d", func := "palinode/palinodelaw43.WatchPlays", spec := "watchPlays", inPlace := ["internal/bytealg.abigen_runtime_cmpstring", "slices.overlaps[palinode/api.Value]"], unfollowed := true, recurses := true, named := ["unicode/utf8.first", "unicode/utf8.acceptRanges"], plainKeys := false, apart := false, laid := [("unicode/utf8.acceptRanges", laid_unicode_utf8_acceptRanges), ("unicode/utf8.first", laid_unicode_utf8_first)] }
def WatchPlaysSaid : Prop := watchPlaysRow.holds Tryz.pinned (OpenSpec.ofChange watchPlaysSpec)

/-- ITS FALSE NEIGHBOUR: 'it returns false'. Refute it at one input. -/
def watchPlaysWrong : ChangeSpec := { name := "watchPlays", fn := fun _ => fun
  | [d1, d2, d3] => { results := [.lit (.bool false)], args := [d1, d2, d3] }
  | _ => none }
def WatchPlaysWrongFalsely : Prop := watchPlaysRow.holds Tryz.pinned (OpenSpec.ofChange watchPlaysWrong)

/-- 'palinodelaw43.WatchNone': WHATEVER THE INPUT: true; the input reads as it did. -/
def watchNoneSpec : ChangeSpec := { name := "watchNone", fn := fun _ => fun
  | [d] => { results := [.lit (.bool true)], args := [d] }
  | _ => none }
def watchNoneRow : OpenClaim := { program := "ytnbgkhdcidbkaaagreatdoor", sum := "f6051e14e4d7bc7880ca3c61385e4c9ce364ca84e7c0c81987502f21af2b5f6d", func := "palinode/palinodelaw43.WatchNone", spec := "watchNone", inPlace := ["internal/bytealg.abigen_runtime_cmpstring", "slices.overlaps[palinode/api.Value]"], unfollowed := true, recurses := true, named := ["unicode/utf8.first", "unicode/utf8.acceptRanges"], plainKeys := false, apart := false, laid := [("unicode/utf8.acceptRanges", laid_unicode_utf8_acceptRanges), ("unicode/utf8.first", laid_unicode_utf8_first)] }
def WatchNoneSaid : Prop := watchNoneRow.holds Tryz.pinned (OpenSpec.ofChange watchNoneSpec)

/-- ITS FALSE NEIGHBOUR: 'it returns false'. Refute it at one input. -/
def watchNoneWrong : ChangeSpec := { name := "watchNone", fn := fun _ => fun
  | [d] => { results := [.lit (.bool false)], args := [d] }
  | _ => none }
def WatchNoneWrongFalsely : Prop := watchNoneRow.holds Tryz.pinned (OpenSpec.ofChange watchNoneWrong)

/-- 'palinodelaw43.WatchSums': WHATEVER THE INPUT: true; the input reads as it did. -/
def watchSumsSpec : ChangeSpec := { name := "watchSums", fn := fun _ => fun
  | [d1, d2, d3] => { results := [.lit (.bool true)], args := [d1, d2, d3] }
  | _ => none }
def watchSumsRow : OpenClaim := { program := "ytnbgkhdcidbkaaagreatdoor", sum := "f6051e14e4d7bc7880ca3c61385e4c9ce364ca84e7c0c81987502f21af2b5f6d", func := "palinode/palinodelaw43.WatchSums", spec := "watchSums", inPlace := ["internal/bytealg.abigen_runtime_cmpstring", "slices.overlaps[palinode/api.Value]", "slices.overlaps[palinode/view.Entry]"], unfollowed := true, recurses := true, named := ["unicode/utf8.first", "unicode/utf8.acceptRanges"], plainKeys := false, apart := false, laid := [("unicode/utf8.acceptRanges", laid_unicode_utf8_acceptRanges), ("unicode/utf8.first", laid_unicode_utf8_first)] }
def WatchSumsSaid : Prop := watchSumsRow.holds Tryz.pinned (OpenSpec.ofChange watchSumsSpec)

/-- ITS FALSE NEIGHBOUR: 'it returns false'. Refute it at one input. -/
def watchSumsWrong : ChangeSpec := { name := "watchSums", fn := fun _ => fun
  | [d1, d2, d3] => { results := [.lit (.bool false)], args := [d1, d2, d3] }
  | _ => none }
def WatchSumsWrongFalsely : Prop := watchSumsRow.holds Tryz.pinned (OpenSpec.ofChange watchSumsWrong)

/-- 'palinodelaw26.StackLast': WHATEVER THE INPUT: true; the input reads as it did. -/
def stackLastSpec : ChangeSpec := { name := "stackLast", fn := fun _ => fun
  | [d1, d2] => { results := [.lit (.bool true)], args := [d1, d2] }
  | _ => none }
def stackLastRow : OpenClaim := { program := "ytnbgkhdcidbkaaagreatdoor", sum := "f6051e14e4d7bc7880ca3c61385e4c9ce364ca84e7c0c81987502f21af2b5f6d", func := "palinode/palinodelaw26.StackLast", spec := "stackLast", inPlace := ["slices.overlaps[palinode/api.Txn]", "slices.overlaps[palinode/api.Dot]"], unfollowed := true, recurses := true, named := ["unicode/utf8.first", "unicode/utf8.acceptRanges"], plainKeys := false, apart := false, laid := [("unicode/utf8.acceptRanges", laid_unicode_utf8_acceptRanges), ("unicode/utf8.first", laid_unicode_utf8_first)] }
def StackLastSaid : Prop := stackLastRow.holds Tryz.pinned (OpenSpec.ofChange stackLastSpec)

/-- ITS FALSE NEIGHBOUR: 'it returns false'. Refute it at one input. -/
def stackLastWrong : ChangeSpec := { name := "stackLast", fn := fun _ => fun
  | [d1, d2] => { results := [.lit (.bool false)], args := [d1, d2] }
  | _ => none }
def StackLastWrongFalsely : Prop := stackLastRow.holds Tryz.pinned (OpenSpec.ofChange stackLastWrong)

/-- 'palinodelaw26.StackCommits': WHATEVER THE INPUT: true; the input reads as it did. -/
def stackCommitsSpec : ChangeSpec := { name := "stackCommits", fn := fun _ => fun
  | [d1, d2] => { results := [.lit (.bool true)], args := [d1, d2] }
  | _ => none }
def stackCommitsRow : OpenClaim := { program := "ytnbgkhdcidbkaaagreatdoor", sum := "f6051e14e4d7bc7880ca3c61385e4c9ce364ca84e7c0c81987502f21af2b5f6d", func := "palinode/palinodelaw26.StackCommits", spec := "stackCommits", inPlace := ["slices.overlaps[palinode/api.Txn]", "slices.overlaps[palinode/api.Dot]"], unfollowed := true, recurses := true, named := ["unicode/utf8.first", "unicode/utf8.acceptRanges"], plainKeys := false, apart := false, laid := [("unicode/utf8.acceptRanges", laid_unicode_utf8_acceptRanges), ("unicode/utf8.first", laid_unicode_utf8_first)] }
def StackCommitsSaid : Prop := stackCommitsRow.holds Tryz.pinned (OpenSpec.ofChange stackCommitsSpec)

/-- ITS FALSE NEIGHBOUR: 'it returns false'. Refute it at one input. -/
def stackCommitsWrong : ChangeSpec := { name := "stackCommits", fn := fun _ => fun
  | [d1, d2] => { results := [.lit (.bool false)], args := [d1, d2] }
  | _ => none }
def StackCommitsWrongFalsely : Prop := stackCommitsRow.holds Tryz.pinned (OpenSpec.ofChange stackCommitsWrong)

/-- 'palinodelaw26.StackSealed': WHATEVER THE INPUT: true; the input reads as it did. -/
def stackSealedSpec : ChangeSpec := { name := "stackSealed", fn := fun _ => fun
  | [d1, d2, d3, d4] => { results := [.lit (.bool true)], args := [d1, d2, d3, d4] }
  | _ => none }
def stackSealedRow : OpenClaim := { program := "ytnbgkhdcidbkaaagreatdoor", sum := "f6051e14e4d7bc7880ca3c61385e4c9ce364ca84e7c0c81987502f21af2b5f6d", func := "palinode/palinodelaw26.StackSealed", spec := "stackSealed", inPlace := ["slices.overlaps[palinode/api.Txn]", "slices.overlaps[palinode/api.Dot]"], unfollowed := true, recurses := true, named := ["unicode/utf8.first", "unicode/utf8.acceptRanges"], plainKeys := false, apart := false, laid := [("unicode/utf8.acceptRanges", laid_unicode_utf8_acceptRanges), ("unicode/utf8.first", laid_unicode_utf8_first)] }
def StackSealedSaid : Prop := stackSealedRow.holds Tryz.pinned (OpenSpec.ofChange stackSealedSpec)

/-- ITS FALSE NEIGHBOUR: 'it returns false'. Refute it at one input. -/
def stackSealedWrong : ChangeSpec := { name := "stackSealed", fn := fun _ => fun
  | [d1, d2, d3, d4] => { results := [.lit (.bool false)], args := [d1, d2, d3, d4] }
  | _ => none }
def StackSealedWrongFalsely : Prop := stackSealedRow.holds Tryz.pinned (OpenSpec.ofChange stackSealedWrong)

/-- 'palinodelaw26.StackUndoes': WHATEVER THE INPUT: true; the input reads as it did. -/
def stackUndoesSpec : ChangeSpec := { name := "stackUndoes", fn := fun _ => fun
  | [d1, d2] => { results := [.lit (.bool true)], args := [d1, d2] }
  | _ => none }
def stackUndoesRow : OpenClaim := { program := "ytnbgkhdcidbkaaagreatdoor", sum := "f6051e14e4d7bc7880ca3c61385e4c9ce364ca84e7c0c81987502f21af2b5f6d", func := "palinode/palinodelaw26.StackUndoes", spec := "stackUndoes", inPlace := ["slices.overlaps[palinode/api.Txn]", "slices.overlaps[palinode/api.Dot]"], unfollowed := true, recurses := true, named := ["unicode/utf8.first", "unicode/utf8.acceptRanges"], plainKeys := false, apart := false, laid := [("unicode/utf8.acceptRanges", laid_unicode_utf8_acceptRanges), ("unicode/utf8.first", laid_unicode_utf8_first)] }
def StackUndoesSaid : Prop := stackUndoesRow.holds Tryz.pinned (OpenSpec.ofChange stackUndoesSpec)

/-- ITS FALSE NEIGHBOUR: 'it returns false'. Refute it at one input. -/
def stackUndoesWrong : ChangeSpec := { name := "stackUndoes", fn := fun _ => fun
  | [d1, d2] => { results := [.lit (.bool false)], args := [d1, d2] }
  | _ => none }
def StackUndoesWrongFalsely : Prop := stackUndoesRow.holds Tryz.pinned (OpenSpec.ofChange stackUndoesWrong)

/-- 'palinodelaw40.PreviewNeeds': WHATEVER THE INPUT: true; the input reads as it did. -/
def previewNeedsSpec : ChangeSpec := { name := "previewNeeds", fn := fun _ => fun
  | [d1, d2, d3, d4, d5] => { results := [.lit (.bool true)], args := [d1, d2, d3, d4, d5] }
  | _ => none }
def previewNeedsRow : OpenClaim := { program := "ytnbgkhdcidbkaaagreatdoor", sum := "f6051e14e4d7bc7880ca3c61385e4c9ce364ca84e7c0c81987502f21af2b5f6d", func := "palinode/palinodelaw40.PreviewNeeds", spec := "previewNeeds", inPlace := ["slices.overlaps[palinode/api.Txn]", "slices.overlaps[palinode/api.Dot]", "internal/bytealg.abigen_runtime_cmpstring", "slices.overlaps[palinode/api.Value]", "internal/abi.NoEscape", "internal/bytealg.MakeNoZero"], unfollowed := true, recurses := true, named := ["internal/strconv.uint64pow10", "math/bits.deBruijn32tab", "math/bits.deBruijn64tab"], plainKeys := false, apart := false, laid := [("math/bits.deBruijn32tab", laid_math_bits_deBruijn32tab), ("math/bits.deBruijn64tab", laid_math_bits_deBruijn64tab), ("internal/strconv.uint64pow10", laid_internal_strconv_uint64pow10)] }
def PreviewNeedsSaid : Prop := previewNeedsRow.holds Tryz.pinned (OpenSpec.ofChange previewNeedsSpec)

/-- ITS FALSE NEIGHBOUR: 'it returns false'. Refute it at one input. -/
def previewNeedsWrong : ChangeSpec := { name := "previewNeeds", fn := fun _ => fun
  | [d1, d2, d3, d4, d5] => { results := [.lit (.bool false)], args := [d1, d2, d3, d4, d5] }
  | _ => none }
def PreviewNeedsWrongFalsely : Prop := previewNeedsRow.holds Tryz.pinned (OpenSpec.ofChange previewNeedsWrong)

/-- 'palinodelaw40.PreviewTells': WHATEVER THE INPUT: true; the input reads as it did. -/
def previewTellsSpec : ChangeSpec := { name := "previewTells", fn := fun _ => fun
  | [d1, d2, d3] => { results := [.lit (.bool true)], args := [d1, d2, d3] }
  | _ => none }
def previewTellsRow : OpenClaim := { program := "ytnbgkhdcidbkaaagreatdoor", sum := "f6051e14e4d7bc7880ca3c61385e4c9ce364ca84e7c0c81987502f21af2b5f6d", func := "palinode/palinodelaw40.PreviewTells", spec := "previewTells", inPlace := ["slices.overlaps[palinode/api.Txn]", "slices.overlaps[palinode/api.Dot]", "internal/bytealg.abigen_runtime_cmpstring", "slices.overlaps[palinode/api.Value]", "internal/abi.NoEscape", "internal/bytealg.MakeNoZero"], unfollowed := true, recurses := true, named := ["internal/strconv.uint64pow10", "math/bits.deBruijn32tab", "math/bits.deBruijn64tab"], plainKeys := false, apart := false, laid := [("math/bits.deBruijn32tab", laid_math_bits_deBruijn32tab), ("math/bits.deBruijn64tab", laid_math_bits_deBruijn64tab), ("internal/strconv.uint64pow10", laid_internal_strconv_uint64pow10)] }
def PreviewTellsSaid : Prop := previewTellsRow.holds Tryz.pinned (OpenSpec.ofChange previewTellsSpec)

/-- ITS FALSE NEIGHBOUR: 'it returns false'. Refute it at one input. -/
def previewTellsWrong : ChangeSpec := { name := "previewTells", fn := fun _ => fun
  | [d1, d2, d3] => { results := [.lit (.bool false)], args := [d1, d2, d3] }
  | _ => none }
def PreviewTellsWrongFalsely : Prop := previewTellsRow.holds Tryz.pinned (OpenSpec.ofChange previewTellsWrong)

/-- 'palinodelaw40.PreviewTouches': WHATEVER THE INPUT: true; the input reads as it did. -/
def previewTouchesSpec : ChangeSpec := { name := "previewTouches", fn := fun _ => fun
  | [d1, d2, d3] => { results := [.lit (.bool true)], args := [d1, d2, d3] }
  | _ => none }
def previewTouchesRow : OpenClaim := { program := "ytnbgkhdcidbkaaagreatdoor", sum := "f6051e14e4d7bc7880ca3c61385e4c9ce364ca84e7c0c81987502f21af2b5f6d", func := "palinode/palinodelaw40.PreviewTouches", spec := "previewTouches", inPlace := ["slices.overlaps[palinode/api.Txn]", "slices.overlaps[palinode/api.Dot]", "internal/bytealg.abigen_runtime_cmpstring", "slices.overlaps[palinode/api.Value]", "internal/abi.NoEscape", "internal/bytealg.MakeNoZero"], unfollowed := true, recurses := true, named := ["internal/strconv.uint64pow10", "math/bits.deBruijn32tab", "math/bits.deBruijn64tab"], plainKeys := false, apart := false, laid := [("math/bits.deBruijn32tab", laid_math_bits_deBruijn32tab), ("math/bits.deBruijn64tab", laid_math_bits_deBruijn64tab), ("internal/strconv.uint64pow10", laid_internal_strconv_uint64pow10)] }
def PreviewTouchesSaid : Prop := previewTouchesRow.holds Tryz.pinned (OpenSpec.ofChange previewTouchesSpec)

/-- ITS FALSE NEIGHBOUR: 'it returns false'. Refute it at one input. -/
def previewTouchesWrong : ChangeSpec := { name := "previewTouches", fn := fun _ => fun
  | [d1, d2, d3] => { results := [.lit (.bool false)], args := [d1, d2, d3] }
  | _ => none }
def PreviewTouchesWrongFalsely : Prop := previewTouchesRow.holds Tryz.pinned (OpenSpec.ofChange previewTouchesWrong)

/-- 'palinodelaw40.PreviewComes': WHATEVER THE INPUT: true; the input reads as it did. -/
def previewComesSpec : ChangeSpec := { name := "previewComes", fn := fun _ => fun
  | [d1, d2, d3] => { results := [.lit (.bool true)], args := [d1, d2, d3] }
  | _ => none }
def previewComesRow : OpenClaim := { program := "ytnbgkhdcidbkaaagreatdoor", sum := "f6051e14e4d7bc7880ca3c61385e4c9ce364ca84e7c0c81987502f21af2b5f6d", func := "palinode/palinodelaw40.PreviewComes", spec := "previewComes", inPlace := ["slices.overlaps[palinode/api.Txn]", "slices.overlaps[palinode/api.Dot]", "internal/bytealg.abigen_runtime_cmpstring", "slices.overlaps[palinode/api.Value]", "internal/abi.NoEscape", "internal/bytealg.MakeNoZero", "slices.overlaps[palinode/view.Entry]"], unfollowed := true, recurses := true, named := ["internal/strconv.uint64pow10", "math/bits.deBruijn32tab", "math/bits.deBruijn64tab", "unicode/utf8.first", "unicode/utf8.acceptRanges"], plainKeys := false, apart := false, laid := [("math/bits.deBruijn32tab", laid_math_bits_deBruijn32tab), ("math/bits.deBruijn64tab", laid_math_bits_deBruijn64tab), ("internal/strconv.uint64pow10", laid_internal_strconv_uint64pow10), ("unicode/utf8.acceptRanges", laid_unicode_utf8_acceptRanges), ("unicode/utf8.first", laid_unicode_utf8_first)] }
def PreviewComesSaid : Prop := previewComesRow.holds Tryz.pinned (OpenSpec.ofChange previewComesSpec)

/-- ITS FALSE NEIGHBOUR: 'it returns false'. Refute it at one input. -/
def previewComesWrong : ChangeSpec := { name := "previewComes", fn := fun _ => fun
  | [d1, d2, d3] => { results := [.lit (.bool false)], args := [d1, d2, d3] }
  | _ => none }
def PreviewComesWrongFalsely : Prop := previewComesRow.holds Tryz.pinned (OpenSpec.ofChange previewComesWrong)

/- THE SECOND FORM. 'bulk': how many values and letters a reading holds, each counted each time it is reached (what is shared counts as often as it is met; a slice's spare places count too). A statement '..UptoSaid' is the law's where the arguments, and the package variables that the reading takes, are together of bulk at most 1048576: NARROWER than '..Said'. Prove '..Said' where nothing that the law and all that it calls make is longer than what came in: it says more and counts as full. Else prove '..UptoSaid'. A law counts once. -/
mutual
def uptoBulk {H : Type} : DataW H → Nat
  | .lit (.string bytes) => bytes.length + 1
  | .lit _ => 1
  | .nil => 1
  | .ptr d => uptoBulk d + 1
  | .slice elems spare => uptoBulkAll elems + uptoBulkAll spare + 1
  | .agg parts => uptoBulkAll parts + 1
  | .iface _ d => uptoBulk d + 1
  | .map entries => uptoBulkEntries entries + 1
  | .held _ => 1
def uptoBulkAll {H : Type} : List (DataW H) → Nat
  | [] => 0
  | d :: r => uptoBulk d + uptoBulkAll r
def uptoBulkEntries {H : Type} : List (Lit × DataW H) → Nat
  | [] => 0
  | x :: r => uptoBulkEntry x + uptoBulkEntries r
def uptoBulkEntry {H : Type} : Lit × DataW H → Nat
  | (.string bytes, d) => bytes.length + uptoBulk d + 1
  | (_, d) => uptoBulk d + 1
 end
def uptoSmall : (H : Type) → List (DataW H) → Bool := fun _ ds => decide (uptoBulkAll ds ≤ 1048576)
def OpenSpec.upto (s : _root_.Go.ChangeSpec) : _root_.Go.OpenSpec := { _root_.Go.OpenSpec.ofChange s with cond := some uptoSmall }

/-- 'palinodelaw43.WatchPlays', WHERE WHAT IT READS IS OF BULK AT MOST 1048576: true; the input reads as it did. -/
def watchPlaysUptoRow : OpenClaim := { program := "ytnbgkhdcidbkaaagreatdoor", sum := "f6051e14e4d7bc7880ca3c61385e4c9ce364ca84e7c0c81987502f21af2b5f6d", func := "palinode/palinodelaw43.WatchPlays", spec := "watchPlays", inPlace := ["internal/bytealg.abigen_runtime_cmpstring", "slices.overlaps[palinode/api.Value]"], unfollowed := true, recurses := true, named := ["unicode/utf8.first", "unicode/utf8.acceptRanges"], plainKeys := false, apart := false, laid := [("unicode/utf8.acceptRanges", laid_unicode_utf8_acceptRanges), ("unicode/utf8.first", laid_unicode_utf8_first)], narrowed := true }
def WatchPlaysUptoSaid : Prop := watchPlaysUptoRow.holds Tryz.pinned (OpenSpec.upto watchPlaysSpec)

/-- 'palinodelaw43.WatchNone', WHERE WHAT IT READS IS OF BULK AT MOST 1048576: true; the input reads as it did. -/
def watchNoneUptoRow : OpenClaim := { program := "ytnbgkhdcidbkaaagreatdoor", sum := "f6051e14e4d7bc7880ca3c61385e4c9ce364ca84e7c0c81987502f21af2b5f6d", func := "palinode/palinodelaw43.WatchNone", spec := "watchNone", inPlace := ["internal/bytealg.abigen_runtime_cmpstring", "slices.overlaps[palinode/api.Value]"], unfollowed := true, recurses := true, named := ["unicode/utf8.first", "unicode/utf8.acceptRanges"], plainKeys := false, apart := false, laid := [("unicode/utf8.acceptRanges", laid_unicode_utf8_acceptRanges), ("unicode/utf8.first", laid_unicode_utf8_first)], narrowed := true }
def WatchNoneUptoSaid : Prop := watchNoneUptoRow.holds Tryz.pinned (OpenSpec.upto watchNoneSpec)

/-- 'palinodelaw43.WatchSums', WHERE WHAT IT READS IS OF BULK AT MOST 1048576: true; the input reads as it did. -/
def watchSumsUptoRow : OpenClaim := { program := "ytnbgkhdcidbkaaagreatdoor", sum := "f6051e14e4d7bc7880ca3c61385e4c9ce364ca84e7c0c81987502f21af2b5f6d", func := "palinode/palinodelaw43.WatchSums", spec := "watchSums", inPlace := ["internal/bytealg.abigen_runtime_cmpstring", "slices.overlaps[palinode/api.Value]", "slices.overlaps[palinode/view.Entry]"], unfollowed := true, recurses := true, named := ["unicode/utf8.first", "unicode/utf8.acceptRanges"], plainKeys := false, apart := false, laid := [("unicode/utf8.acceptRanges", laid_unicode_utf8_acceptRanges), ("unicode/utf8.first", laid_unicode_utf8_first)], narrowed := true }
def WatchSumsUptoSaid : Prop := watchSumsUptoRow.holds Tryz.pinned (OpenSpec.upto watchSumsSpec)

/-- 'palinodelaw26.StackLast', WHERE WHAT IT READS IS OF BULK AT MOST 1048576: true; the input reads as it did. -/
def stackLastUptoRow : OpenClaim := { program := "ytnbgkhdcidbkaaagreatdoor", sum := "f6051e14e4d7bc7880ca3c61385e4c9ce364ca84e7c0c81987502f21af2b5f6d", func := "palinode/palinodelaw26.StackLast", spec := "stackLast", inPlace := ["slices.overlaps[palinode/api.Txn]", "slices.overlaps[palinode/api.Dot]"], unfollowed := true, recurses := true, named := ["unicode/utf8.first", "unicode/utf8.acceptRanges"], plainKeys := false, apart := false, laid := [("unicode/utf8.acceptRanges", laid_unicode_utf8_acceptRanges), ("unicode/utf8.first", laid_unicode_utf8_first)], narrowed := true }
def StackLastUptoSaid : Prop := stackLastUptoRow.holds Tryz.pinned (OpenSpec.upto stackLastSpec)

/-- 'palinodelaw26.StackCommits', WHERE WHAT IT READS IS OF BULK AT MOST 1048576: true; the input reads as it did. -/
def stackCommitsUptoRow : OpenClaim := { program := "ytnbgkhdcidbkaaagreatdoor", sum := "f6051e14e4d7bc7880ca3c61385e4c9ce364ca84e7c0c81987502f21af2b5f6d", func := "palinode/palinodelaw26.StackCommits", spec := "stackCommits", inPlace := ["slices.overlaps[palinode/api.Txn]", "slices.overlaps[palinode/api.Dot]"], unfollowed := true, recurses := true, named := ["unicode/utf8.first", "unicode/utf8.acceptRanges"], plainKeys := false, apart := false, laid := [("unicode/utf8.acceptRanges", laid_unicode_utf8_acceptRanges), ("unicode/utf8.first", laid_unicode_utf8_first)], narrowed := true }
def StackCommitsUptoSaid : Prop := stackCommitsUptoRow.holds Tryz.pinned (OpenSpec.upto stackCommitsSpec)

/-- 'palinodelaw26.StackSealed', WHERE WHAT IT READS IS OF BULK AT MOST 1048576: true; the input reads as it did. -/
def stackSealedUptoRow : OpenClaim := { program := "ytnbgkhdcidbkaaagreatdoor", sum := "f6051e14e4d7bc7880ca3c61385e4c9ce364ca84e7c0c81987502f21af2b5f6d", func := "palinode/palinodelaw26.StackSealed", spec := "stackSealed", inPlace := ["slices.overlaps[palinode/api.Txn]", "slices.overlaps[palinode/api.Dot]"], unfollowed := true, recurses := true, named := ["unicode/utf8.first", "unicode/utf8.acceptRanges"], plainKeys := false, apart := false, laid := [("unicode/utf8.acceptRanges", laid_unicode_utf8_acceptRanges), ("unicode/utf8.first", laid_unicode_utf8_first)], narrowed := true }
def StackSealedUptoSaid : Prop := stackSealedUptoRow.holds Tryz.pinned (OpenSpec.upto stackSealedSpec)

/-- 'palinodelaw26.StackUndoes', WHERE WHAT IT READS IS OF BULK AT MOST 1048576: true; the input reads as it did. -/
def stackUndoesUptoRow : OpenClaim := { program := "ytnbgkhdcidbkaaagreatdoor", sum := "f6051e14e4d7bc7880ca3c61385e4c9ce364ca84e7c0c81987502f21af2b5f6d", func := "palinode/palinodelaw26.StackUndoes", spec := "stackUndoes", inPlace := ["slices.overlaps[palinode/api.Txn]", "slices.overlaps[palinode/api.Dot]"], unfollowed := true, recurses := true, named := ["unicode/utf8.first", "unicode/utf8.acceptRanges"], plainKeys := false, apart := false, laid := [("unicode/utf8.acceptRanges", laid_unicode_utf8_acceptRanges), ("unicode/utf8.first", laid_unicode_utf8_first)], narrowed := true }
def StackUndoesUptoSaid : Prop := stackUndoesUptoRow.holds Tryz.pinned (OpenSpec.upto stackUndoesSpec)

/-- 'palinodelaw40.PreviewNeeds', WHERE WHAT IT READS IS OF BULK AT MOST 1048576: true; the input reads as it did. -/
def previewNeedsUptoRow : OpenClaim := { program := "ytnbgkhdcidbkaaagreatdoor", sum := "f6051e14e4d7bc7880ca3c61385e4c9ce364ca84e7c0c81987502f21af2b5f6d", func := "palinode/palinodelaw40.PreviewNeeds", spec := "previewNeeds", inPlace := ["slices.overlaps[palinode/api.Txn]", "slices.overlaps[palinode/api.Dot]", "internal/bytealg.abigen_runtime_cmpstring", "slices.overlaps[palinode/api.Value]", "internal/abi.NoEscape", "internal/bytealg.MakeNoZero"], unfollowed := true, recurses := true, named := ["internal/strconv.uint64pow10", "math/bits.deBruijn32tab", "math/bits.deBruijn64tab"], plainKeys := false, apart := false, laid := [("math/bits.deBruijn32tab", laid_math_bits_deBruijn32tab), ("math/bits.deBruijn64tab", laid_math_bits_deBruijn64tab), ("internal/strconv.uint64pow10", laid_internal_strconv_uint64pow10)], narrowed := true }
def PreviewNeedsUptoSaid : Prop := previewNeedsUptoRow.holds Tryz.pinned (OpenSpec.upto previewNeedsSpec)

/-- 'palinodelaw40.PreviewTells', WHERE WHAT IT READS IS OF BULK AT MOST 1048576: true; the input reads as it did. -/
def previewTellsUptoRow : OpenClaim := { program := "ytnbgkhdcidbkaaagreatdoor", sum := "f6051e14e4d7bc7880ca3c61385e4c9ce364ca84e7c0c81987502f21af2b5f6d", func := "palinode/palinodelaw40.PreviewTells", spec := "previewTells", inPlace := ["slices.overlaps[palinode/api.Txn]", "slices.overlaps[palinode/api.Dot]", "internal/bytealg.abigen_runtime_cmpstring", "slices.overlaps[palinode/api.Value]", "internal/abi.NoEscape", "internal/bytealg.MakeNoZero"], unfollowed := true, recurses := true, named := ["internal/strconv.uint64pow10", "math/bits.deBruijn32tab", "math/bits.deBruijn64tab"], plainKeys := false, apart := false, laid := [("math/bits.deBruijn32tab", laid_math_bits_deBruijn32tab), ("math/bits.deBruijn64tab", laid_math_bits_deBruijn64tab), ("internal/strconv.uint64pow10", laid_internal_strconv_uint64pow10)], narrowed := true }
def PreviewTellsUptoSaid : Prop := previewTellsUptoRow.holds Tryz.pinned (OpenSpec.upto previewTellsSpec)

/-- 'palinodelaw40.PreviewTouches', WHERE WHAT IT READS IS OF BULK AT MOST 1048576: true; the input reads as it did. -/
def previewTouchesUptoRow : OpenClaim := { program := "ytnbgkhdcidbkaaagreatdoor", sum := "f6051e14e4d7bc7880ca3c61385e4c9ce364ca84e7c0c81987502f21af2b5f6d", func := "palinode/palinodelaw40.PreviewTouches", spec := "previewTouches", inPlace := ["slices.overlaps[palinode/api.Txn]", "slices.overlaps[palinode/api.Dot]", "internal/bytealg.abigen_runtime_cmpstring", "slices.overlaps[palinode/api.Value]", "internal/abi.NoEscape", "internal/bytealg.MakeNoZero"], unfollowed := true, recurses := true, named := ["internal/strconv.uint64pow10", "math/bits.deBruijn32tab", "math/bits.deBruijn64tab"], plainKeys := false, apart := false, laid := [("math/bits.deBruijn32tab", laid_math_bits_deBruijn32tab), ("math/bits.deBruijn64tab", laid_math_bits_deBruijn64tab), ("internal/strconv.uint64pow10", laid_internal_strconv_uint64pow10)], narrowed := true }
def PreviewTouchesUptoSaid : Prop := previewTouchesUptoRow.holds Tryz.pinned (OpenSpec.upto previewTouchesSpec)

/-- 'palinodelaw40.PreviewComes', WHERE WHAT IT READS IS OF BULK AT MOST 1048576: true; the input reads as it did. -/
def previewComesUptoRow : OpenClaim := { program := "ytnbgkhdcidbkaaagreatdoor", sum := "f6051e14e4d7bc7880ca3c61385e4c9ce364ca84e7c0c81987502f21af2b5f6d", func := "palinode/palinodelaw40.PreviewComes", spec := "previewComes", inPlace := ["slices.overlaps[palinode/api.Txn]", "slices.overlaps[palinode/api.Dot]", "internal/bytealg.abigen_runtime_cmpstring", "slices.overlaps[palinode/api.Value]", "internal/abi.NoEscape", "internal/bytealg.MakeNoZero", "slices.overlaps[palinode/view.Entry]"], unfollowed := true, recurses := true, named := ["internal/strconv.uint64pow10", "math/bits.deBruijn32tab", "math/bits.deBruijn64tab", "unicode/utf8.first", "unicode/utf8.acceptRanges"], plainKeys := false, apart := false, laid := [("math/bits.deBruijn32tab", laid_math_bits_deBruijn32tab), ("math/bits.deBruijn64tab", laid_math_bits_deBruijn64tab), ("internal/strconv.uint64pow10", laid_internal_strconv_uint64pow10), ("unicode/utf8.acceptRanges", laid_unicode_utf8_acceptRanges), ("unicode/utf8.first", laid_unicode_utf8_first)], narrowed := true }
def PreviewComesUptoSaid : Prop := previewComesUptoRow.holds Tryz.pinned (OpenSpec.upto previewComesSpec)

end Rows
end Go.Proofs.YtnbgkhdcidbkaaaGreatDoor
