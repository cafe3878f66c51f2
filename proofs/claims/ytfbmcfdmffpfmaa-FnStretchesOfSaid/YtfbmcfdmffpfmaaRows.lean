/-
  No cell of these rows narrows 'for every input' (looked for: loops, veiled, ifaces, maps, wideKeys, modest, calm, conditions, laid).
  DERIVED. THE GIVEN ROWS OF THIS SEAT. 17 by the template 'for every input the law returns true; each argument reads behind the call as it read before'; 0 by the template 'total and deterministic' (their statements: YtfbmcfdmffpfmaaTotals.lean).
  GIVEN WITH THE SEED: the statements are not yours to turn. If you find one false, say at which input.
  Laid BY PROGRAM, IN A SANDBOX (cutbox-rows.mjs): the forced cells as the released guide's own fill.sh prints them over the translation d3747c1c4904273d… (all of the seat's roots in one cut). By AI agents, Wed Nov 11 2026. No macro, syntax, notation, axiom, sorry.
-/
import Derived.Test.YtfbmcfdmffpfmaaChecked
import GoSem.Claim
import GoSem.ClaimJoined
import GoSem.ClaimMapViews
import Derived.JoinedTies
import Derived.KernelRfl
namespace Go.Proofs.Ytfbmcfdmffpfmaa
/- THE CELL 'sum', in the pinned program and in every row, IS THE sha256 OF THE DUMP (.gsa) THAT YtfbmcfdmffpfmaaProg.lean LOADS. Nothing in Lean hashes anything: it is a label: what it is worth is what the hold of that sum in a sandbox is worth. -/
noncomputable def Try.pinned : Pinned := { name := "ytfbmcfdmffpfmaa", sum := "d3747c1c4904273d512eeb14431569339caa239b191f8c4bb2c82a231a4e746d", checked := Try.checked }
namespace Rows
def none {H : Type} : Left H := { results := [], args := [] }

/-- 'laws.FnExactLongestTwice': WHATEVER THE INPUT: true; the input reads as it did. -/
def fnExactLongestTwiceSpec : ChangeSpec := { name := "fnExactLongestTwice", fn := fun _ => fun
  | [d] => { results := [.lit (.bool true)], args := [d] }
  | _ => none }
def fnExactLongestTwiceRow : OpenClaim := { program := "ytfbmcfdmffpfmaa", sum := "d3747c1c4904273d512eeb14431569339caa239b191f8c4bb2c82a231a4e746d", func := "loop.example/overlappingtexts/laws.FnExactLongestTwice", spec := "fnExactLongestTwice", unfollowed := true, recurses := true, apart := false }
def FnExactLongestTwiceSaid : Prop := fnExactLongestTwiceRow.holds Try.pinned (OpenSpec.ofChange fnExactLongestTwiceSpec)

/-- ITS FALSE NEIGHBOUR: 'it returns false'. Refute it at one input. -/
def fnExactLongestTwiceWrong : ChangeSpec := { name := "fnExactLongestTwice", fn := fun _ => fun
  | [d] => { results := [.lit (.bool false)], args := [d] }
  | _ => none }
def FnExactLongestTwiceWrongFalsely : Prop := fnExactLongestTwiceRow.holds Try.pinned (OpenSpec.ofChange fnExactLongestTwiceWrong)

/-- 'laws.FnExactWindowsOf': WHATEVER THE INPUT: true; the input reads as it did. -/
def fnExactWindowsOfSpec : ChangeSpec := { name := "fnExactWindowsOf", fn := fun _ => fun
  | [d1, d2] => { results := [.lit (.bool true)], args := [d1, d2] }
  | _ => none }
def fnExactWindowsOfRow : OpenClaim := { program := "ytfbmcfdmffpfmaa", sum := "d3747c1c4904273d512eeb14431569339caa239b191f8c4bb2c82a231a4e746d", func := "loop.example/overlappingtexts/laws.FnExactWindowsOf", spec := "fnExactWindowsOf", recurses := true, apart := false }
def FnExactWindowsOfSaid : Prop := fnExactWindowsOfRow.holds Try.pinned (OpenSpec.ofChange fnExactWindowsOfSpec)

/-- ITS FALSE NEIGHBOUR: 'it returns false'. Refute it at one input. -/
def fnExactWindowsOfWrong : ChangeSpec := { name := "fnExactWindowsOf", fn := fun _ => fun
  | [d1, d2] => { results := [.lit (.bool false)], args := [d1, d2] }
  | _ => none }
def FnExactWindowsOfWrongFalsely : Prop := fnExactWindowsOfRow.holds Try.pinned (OpenSpec.ofChange fnExactWindowsOfWrong)

/-- 'laws.FnExactFactorsOf': WHATEVER THE INPUT: true; the input reads as it did. -/
def fnExactFactorsOfSpec : ChangeSpec := { name := "fnExactFactorsOf", fn := fun _ => fun
  | [d1, d2] => { results := [.lit (.bool true)], args := [d1, d2] }
  | _ => none }
def fnExactFactorsOfRow : OpenClaim := { program := "ytfbmcfdmffpfmaa", sum := "d3747c1c4904273d512eeb14431569339caa239b191f8c4bb2c82a231a4e746d", func := "loop.example/overlappingtexts/laws.FnExactFactorsOf", spec := "fnExactFactorsOf", unfollowed := true, recurses := true, apart := false }
def FnExactFactorsOfSaid : Prop := fnExactFactorsOfRow.holds Try.pinned (OpenSpec.ofChange fnExactFactorsOfSpec)

/-- ITS FALSE NEIGHBOUR: 'it returns false'. Refute it at one input. -/
def fnExactFactorsOfWrong : ChangeSpec := { name := "fnExactFactorsOf", fn := fun _ => fun
  | [d1, d2] => { results := [.lit (.bool false)], args := [d1, d2] }
  | _ => none }
def FnExactFactorsOfWrongFalsely : Prop := fnExactFactorsOfRow.holds Try.pinned (OpenSpec.ofChange fnExactFactorsOfWrong)

/-- 'laws.FnWindowsOf': WHATEVER THE INPUT: true; the input reads as it did. -/
def fnWindowsOfSpec : ChangeSpec := { name := "fnWindowsOf", fn := fun _ => fun
  | [d] => { results := [.lit (.bool true)], args := [d] }
  | _ => none }
def fnWindowsOfRow : OpenClaim := { program := "ytfbmcfdmffpfmaa", sum := "d3747c1c4904273d512eeb14431569339caa239b191f8c4bb2c82a231a4e746d", func := "loop.example/overlappingtexts/laws.FnWindowsOf", spec := "fnWindowsOf", unfollowed := true, recurses := true, apart := false }
def FnWindowsOfSaid : Prop := fnWindowsOfRow.holds Try.pinned (OpenSpec.ofChange fnWindowsOfSpec)

/-- ITS FALSE NEIGHBOUR: 'it returns false'. Refute it at one input. -/
def fnWindowsOfWrong : ChangeSpec := { name := "fnWindowsOf", fn := fun _ => fun
  | [d] => { results := [.lit (.bool false)], args := [d] }
  | _ => none }
def FnWindowsOfWrongFalsely : Prop := fnWindowsOfRow.holds Try.pinned (OpenSpec.ofChange fnWindowsOfWrong)

/-- 'laws.FnOnceFrom': WHATEVER THE INPUT: true; the input reads as it did. -/
def fnOnceFromSpec : ChangeSpec := { name := "fnOnceFrom", fn := fun _ => fun
  | [d] => { results := [.lit (.bool true)], args := [d] }
  | _ => none }
def fnOnceFromRow : OpenClaim := { program := "ytfbmcfdmffpfmaa", sum := "d3747c1c4904273d512eeb14431569339caa239b191f8c4bb2c82a231a4e746d", func := "loop.example/overlappingtexts/laws.FnOnceFrom", spec := "fnOnceFrom", unfollowed := true, recurses := true, apart := false }
def FnOnceFromSaid : Prop := fnOnceFromRow.holds Try.pinned (OpenSpec.ofChange fnOnceFromSpec)

/-- ITS FALSE NEIGHBOUR: 'it returns false'. Refute it at one input. -/
def fnOnceFromWrong : ChangeSpec := { name := "fnOnceFrom", fn := fun _ => fun
  | [d] => { results := [.lit (.bool false)], args := [d] }
  | _ => none }
def FnOnceFromWrongFalsely : Prop := fnOnceFromRow.holds Try.pinned (OpenSpec.ofChange fnOnceFromWrong)

/-- 'laws.FnLongestTwice': WHATEVER THE INPUT: true; the input reads as it did. -/
def fnLongestTwiceSpec : ChangeSpec := { name := "fnLongestTwice", fn := fun _ => fun
  | [d] => { results := [.lit (.bool true)], args := [d] }
  | _ => none }
def fnLongestTwiceRow : OpenClaim := { program := "ytfbmcfdmffpfmaa", sum := "d3747c1c4904273d512eeb14431569339caa239b191f8c4bb2c82a231a4e746d", func := "loop.example/overlappingtexts/laws.FnLongestTwice", spec := "fnLongestTwice", unfollowed := true, recurses := true, apart := false }
def FnLongestTwiceSaid : Prop := fnLongestTwiceRow.holds Try.pinned (OpenSpec.ofChange fnLongestTwiceSpec)

/-- ITS FALSE NEIGHBOUR: 'it returns false'. Refute it at one input. -/
def fnLongestTwiceWrong : ChangeSpec := { name := "fnLongestTwice", fn := fun _ => fun
  | [d] => { results := [.lit (.bool false)], args := [d] }
  | _ => none }
def FnLongestTwiceWrongFalsely : Prop := fnLongestTwiceRow.holds Try.pinned (OpenSpec.ofChange fnLongestTwiceWrong)

/-- 'laws.FnExactIsTold': WHATEVER THE INPUT: true; the input reads as it did. -/
def fnExactIsToldSpec : ChangeSpec := { name := "fnExactIsTold", fn := fun _ => fun
  | [d1, d2] => { results := [.lit (.bool true)], args := [d1, d2] }
  | _ => none }
def fnExactIsToldRow : OpenClaim := { program := "ytfbmcfdmffpfmaa", sum := "d3747c1c4904273d512eeb14431569339caa239b191f8c4bb2c82a231a4e746d", func := "loop.example/overlappingtexts/laws.FnExactIsTold", spec := "fnExactIsTold", unfollowed := true, recurses := true, apart := false }
def FnExactIsToldSaid : Prop := fnExactIsToldRow.holds Try.pinned (OpenSpec.ofChange fnExactIsToldSpec)

/-- ITS FALSE NEIGHBOUR: 'it returns false'. Refute it at one input. -/
def fnExactIsToldWrong : ChangeSpec := { name := "fnExactIsTold", fn := fun _ => fun
  | [d1, d2] => { results := [.lit (.bool false)], args := [d1, d2] }
  | _ => none }
def FnExactIsToldWrongFalsely : Prop := fnExactIsToldRow.holds Try.pinned (OpenSpec.ofChange fnExactIsToldWrong)

/-- 'laws.FnExactLeastTold': WHATEVER THE INPUT: true; the input reads as it did. -/
def fnExactLeastToldSpec : ChangeSpec := { name := "fnExactLeastTold", fn := fun _ => fun
  | [d] => { results := [.lit (.bool true)], args := [d] }
  | _ => none }
def fnExactLeastToldRow : OpenClaim := { program := "ytfbmcfdmffpfmaa", sum := "d3747c1c4904273d512eeb14431569339caa239b191f8c4bb2c82a231a4e746d", func := "loop.example/overlappingtexts/laws.FnExactLeastTold", spec := "fnExactLeastTold", unfollowed := true, recurses := true, apart := false }
def FnExactLeastToldSaid : Prop := fnExactLeastToldRow.holds Try.pinned (OpenSpec.ofChange fnExactLeastToldSpec)

/-- ITS FALSE NEIGHBOUR: 'it returns false'. Refute it at one input. -/
def fnExactLeastToldWrong : ChangeSpec := { name := "fnExactLeastTold", fn := fun _ => fun
  | [d] => { results := [.lit (.bool false)], args := [d] }
  | _ => none }
def FnExactLeastToldWrongFalsely : Prop := fnExactLeastToldRow.holds Try.pinned (OpenSpec.ofChange fnExactLeastToldWrong)

/-- 'laws.FnExactTextsOf': WHATEVER THE INPUT: true; the input reads as it did. -/
def fnExactTextsOfSpec : ChangeSpec := { name := "fnExactTextsOf", fn := fun _ => fun
  | [d] => { results := [.lit (.bool true)], args := [d] }
  | _ => none }
def fnExactTextsOfRow : OpenClaim := { program := "ytfbmcfdmffpfmaa", sum := "d3747c1c4904273d512eeb14431569339caa239b191f8c4bb2c82a231a4e746d", func := "loop.example/overlappingtexts/laws.FnExactTextsOf", spec := "fnExactTextsOf", unfollowed := true, recurses := true, apart := false }
def FnExactTextsOfSaid : Prop := fnExactTextsOfRow.holds Try.pinned (OpenSpec.ofChange fnExactTextsOfSpec)

/-- ITS FALSE NEIGHBOUR: 'it returns false'. Refute it at one input. -/
def fnExactTextsOfWrong : ChangeSpec := { name := "fnExactTextsOf", fn := fun _ => fun
  | [d] => { results := [.lit (.bool false)], args := [d] }
  | _ => none }
def FnExactTextsOfWrongFalsely : Prop := fnExactTextsOfRow.holds Try.pinned (OpenSpec.ofChange fnExactTextsOfWrong)

/-- 'laws.FnExactMissingOf': WHATEVER THE INPUT: true; the input reads as it did. -/
def fnExactMissingOfSpec : ChangeSpec := { name := "fnExactMissingOf", fn := fun _ => fun
  | [d] => { results := [.lit (.bool true)], args := [d] }
  | _ => none }
def fnExactMissingOfRow : OpenClaim := { program := "ytfbmcfdmffpfmaa", sum := "d3747c1c4904273d512eeb14431569339caa239b191f8c4bb2c82a231a4e746d", func := "loop.example/overlappingtexts/laws.FnExactMissingOf", spec := "fnExactMissingOf", inPlace := ["internal/bytealg.IndexByteString", "internal/bytealg.IndexString"], unfollowed := true, recurses := true, named := ["internal/bytealg.MaxLen"], apart := false }
def FnExactMissingOfSaid : Prop := fnExactMissingOfRow.holds Try.pinned (OpenSpec.ofChange fnExactMissingOfSpec)

/-- ITS FALSE NEIGHBOUR: 'it returns false'. Refute it at one input. -/
def fnExactMissingOfWrong : ChangeSpec := { name := "fnExactMissingOf", fn := fun _ => fun
  | [d] => { results := [.lit (.bool false)], args := [d] }
  | _ => none }
def FnExactMissingOfWrongFalsely : Prop := fnExactMissingOfRow.holds Try.pinned (OpenSpec.ofChange fnExactMissingOfWrong)

/-- 'laws.FnExactStretchesOf': WHATEVER THE INPUT: true; the input reads as it did. -/
def fnExactStretchesOfSpec : ChangeSpec := { name := "fnExactStretchesOf", fn := fun _ => fun
  | [d] => { results := [.lit (.bool true)], args := [d] }
  | _ => none }
def fnExactStretchesOfRow : OpenClaim := { program := "ytfbmcfdmffpfmaa", sum := "d3747c1c4904273d512eeb14431569339caa239b191f8c4bb2c82a231a4e746d", func := "loop.example/overlappingtexts/laws.FnExactStretchesOf", spec := "fnExactStretchesOf", unfollowed := true, recurses := true, apart := false }
def FnExactStretchesOfSaid : Prop := fnExactStretchesOfRow.holds Try.pinned (OpenSpec.ofChange fnExactStretchesOfSpec)

/-- ITS FALSE NEIGHBOUR: 'it returns false'. Refute it at one input. -/
def fnExactStretchesOfWrong : ChangeSpec := { name := "fnExactStretchesOf", fn := fun _ => fun
  | [d] => { results := [.lit (.bool false)], args := [d] }
  | _ => none }
def FnExactStretchesOfWrongFalsely : Prop := fnExactStretchesOfRow.holds Try.pinned (OpenSpec.ofChange fnExactStretchesOfWrong)

/-- 'laws.FnFactorsOf': WHATEVER THE INPUT: true; the input reads as it did. -/
def fnFactorsOfSpec : ChangeSpec := { name := "fnFactorsOf", fn := fun _ => fun
  | [d] => { results := [.lit (.bool true)], args := [d] }
  | _ => none }
def fnFactorsOfRow : OpenClaim := { program := "ytfbmcfdmffpfmaa", sum := "d3747c1c4904273d512eeb14431569339caa239b191f8c4bb2c82a231a4e746d", func := "loop.example/overlappingtexts/laws.FnFactorsOf", spec := "fnFactorsOf", inPlace := ["internal/bytealg.IndexByteString", "internal/bytealg.IndexString"], unfollowed := true, recurses := true, named := ["internal/bytealg.MaxLen"], apart := false }
def FnFactorsOfSaid : Prop := fnFactorsOfRow.holds Try.pinned (OpenSpec.ofChange fnFactorsOfSpec)

/-- ITS FALSE NEIGHBOUR: 'it returns false'. Refute it at one input. -/
def fnFactorsOfWrong : ChangeSpec := { name := "fnFactorsOf", fn := fun _ => fun
  | [d] => { results := [.lit (.bool false)], args := [d] }
  | _ => none }
def FnFactorsOfWrongFalsely : Prop := fnFactorsOfRow.holds Try.pinned (OpenSpec.ofChange fnFactorsOfWrong)

/-- 'laws.FnLeastTold': WHATEVER THE INPUT: true; the input reads as it did. -/
def fnLeastToldSpec : ChangeSpec := { name := "fnLeastTold", fn := fun _ => fun
  | [d] => { results := [.lit (.bool true)], args := [d] }
  | _ => none }
def fnLeastToldRow : OpenClaim := { program := "ytfbmcfdmffpfmaa", sum := "d3747c1c4904273d512eeb14431569339caa239b191f8c4bb2c82a231a4e746d", func := "loop.example/overlappingtexts/laws.FnLeastTold", spec := "fnLeastTold", unfollowed := true, recurses := true, apart := false }
def FnLeastToldSaid : Prop := fnLeastToldRow.holds Try.pinned (OpenSpec.ofChange fnLeastToldSpec)

/-- ITS FALSE NEIGHBOUR: 'it returns false'. Refute it at one input. -/
def fnLeastToldWrong : ChangeSpec := { name := "fnLeastTold", fn := fun _ => fun
  | [d] => { results := [.lit (.bool false)], args := [d] }
  | _ => none }
def FnLeastToldWrongFalsely : Prop := fnLeastToldRow.holds Try.pinned (OpenSpec.ofChange fnLeastToldWrong)

/-- 'laws.FnMissingOf': WHATEVER THE INPUT: true; the input reads as it did. -/
def fnMissingOfSpec : ChangeSpec := { name := "fnMissingOf", fn := fun _ => fun
  | [d] => { results := [.lit (.bool true)], args := [d] }
  | _ => none }
def fnMissingOfRow : OpenClaim := { program := "ytfbmcfdmffpfmaa", sum := "d3747c1c4904273d512eeb14431569339caa239b191f8c4bb2c82a231a4e746d", func := "loop.example/overlappingtexts/laws.FnMissingOf", spec := "fnMissingOf", inPlace := ["internal/bytealg.IndexByteString", "internal/bytealg.IndexString"], unfollowed := true, recurses := true, named := ["internal/bytealg.MaxLen"], apart := false }
def FnMissingOfSaid : Prop := fnMissingOfRow.holds Try.pinned (OpenSpec.ofChange fnMissingOfSpec)

/-- ITS FALSE NEIGHBOUR: 'it returns false'. Refute it at one input. -/
def fnMissingOfWrong : ChangeSpec := { name := "fnMissingOf", fn := fun _ => fun
  | [d] => { results := [.lit (.bool false)], args := [d] }
  | _ => none }
def FnMissingOfWrongFalsely : Prop := fnMissingOfRow.holds Try.pinned (OpenSpec.ofChange fnMissingOfWrong)

/-- 'laws.FnIsTold': WHATEVER THE INPUT: true; the input reads as it did. -/
def fnIsToldSpec : ChangeSpec := { name := "fnIsTold", fn := fun _ => fun
  | [d] => { results := [.lit (.bool true)], args := [d] }
  | _ => none }
def fnIsToldRow : OpenClaim := { program := "ytfbmcfdmffpfmaa", sum := "d3747c1c4904273d512eeb14431569339caa239b191f8c4bb2c82a231a4e746d", func := "loop.example/overlappingtexts/laws.FnIsTold", spec := "fnIsTold", unfollowed := true, recurses := true, apart := false }
def FnIsToldSaid : Prop := fnIsToldRow.holds Try.pinned (OpenSpec.ofChange fnIsToldSpec)

/-- ITS FALSE NEIGHBOUR: 'it returns false'. Refute it at one input. -/
def fnIsToldWrong : ChangeSpec := { name := "fnIsTold", fn := fun _ => fun
  | [d] => { results := [.lit (.bool false)], args := [d] }
  | _ => none }
def FnIsToldWrongFalsely : Prop := fnIsToldRow.holds Try.pinned (OpenSpec.ofChange fnIsToldWrong)

/-- 'laws.FnStretchesOf': WHATEVER THE INPUT: true; the input reads as it did. -/
def fnStretchesOfSpec : ChangeSpec := { name := "fnStretchesOf", fn := fun _ => fun
  | [d] => { results := [.lit (.bool true)], args := [d] }
  | _ => none }
def fnStretchesOfRow : OpenClaim := { program := "ytfbmcfdmffpfmaa", sum := "d3747c1c4904273d512eeb14431569339caa239b191f8c4bb2c82a231a4e746d", func := "loop.example/overlappingtexts/laws.FnStretchesOf", spec := "fnStretchesOf", unfollowed := true, recurses := true, apart := false }
def FnStretchesOfSaid : Prop := fnStretchesOfRow.holds Try.pinned (OpenSpec.ofChange fnStretchesOfSpec)

/-- ITS FALSE NEIGHBOUR: 'it returns false'. Refute it at one input. -/
def fnStretchesOfWrong : ChangeSpec := { name := "fnStretchesOf", fn := fun _ => fun
  | [d] => { results := [.lit (.bool false)], args := [d] }
  | _ => none }
def FnStretchesOfWrongFalsely : Prop := fnStretchesOfRow.holds Try.pinned (OpenSpec.ofChange fnStretchesOfWrong)

/-- 'laws.FnTextsOf': WHATEVER THE INPUT: true; the input reads as it did. -/
def fnTextsOfSpec : ChangeSpec := { name := "fnTextsOf", fn := fun _ => fun
  | [d] => { results := [.lit (.bool true)], args := [d] }
  | _ => none }
def fnTextsOfRow : OpenClaim := { program := "ytfbmcfdmffpfmaa", sum := "d3747c1c4904273d512eeb14431569339caa239b191f8c4bb2c82a231a4e746d", func := "loop.example/overlappingtexts/laws.FnTextsOf", spec := "fnTextsOf", unfollowed := true, recurses := true, apart := false }
def FnTextsOfSaid : Prop := fnTextsOfRow.holds Try.pinned (OpenSpec.ofChange fnTextsOfSpec)

/-- ITS FALSE NEIGHBOUR: 'it returns false'. Refute it at one input. -/
def fnTextsOfWrong : ChangeSpec := { name := "fnTextsOf", fn := fun _ => fun
  | [d] => { results := [.lit (.bool false)], args := [d] }
  | _ => none }
def FnTextsOfWrongFalsely : Prop := fnTextsOfRow.holds Try.pinned (OpenSpec.ofChange fnTextsOfWrong)

/- THE SECOND FORM. 'bulk': how many values and letters a reading holds, each counted each time it is reached (what is shared counts as often as it is met; a slice's spare places count too). A statement '..UptoSaid' is the law's where the arguments, and the package variables that the reading takes, are together of bulk at most 1048576: NARROWER than '..Said'. Prove '..Said' where nothing that the law and all that it calls make is longer than what came in: it says more and counts as full. Else prove '..UptoSaid'. A law counts once. -/
mutual
def uptoBulk {H : Type} : DataW H → Nat
  | .lit (.string bytes) => bytes.length + 1
  | .lit _ => 1
  | .nil => 1
  | .ptr d => uptoBulk d + 1
  | .slice elems spare => uptoBulkAll elems + uptoBulkAll spare + 1
  | .agg parts => uptoBulkAll parts + 1
  | .iface _ d => uptoBulk d + 1
  | .map entries => uptoBulkEntries entries + 1
  | .held _ => 1
def uptoBulkAll {H : Type} : List (DataW H) → Nat
  | [] => 0
  | d :: r => uptoBulk d + uptoBulkAll r
def uptoBulkEntries {H : Type} : List (Lit × DataW H) → Nat
  | [] => 0
  | x :: r => uptoBulkEntry x + uptoBulkEntries r
def uptoBulkEntry {H : Type} : Lit × DataW H → Nat
  | (.string bytes, d) => bytes.length + uptoBulk d + 1
  | (_, d) => uptoBulk d + 1
 end
def uptoSmall : (H : Type) → List (DataW H) → Bool := fun _ ds => decide (uptoBulkAll ds ≤ 1048576)
def OpenSpec.upto (s : _root_.Go.ChangeSpec) : _root_.Go.OpenSpec := { _root_.Go.OpenSpec.ofChange s with cond := some uptoSmall }

/-- 'laws.FnExactLongestTwice', WHERE WHAT IT READS IS OF BULK AT MOST 1048576: true; the input reads as it did. -/
def fnExactLongestTwiceUptoRow : OpenClaim := { program := "ytfbmcfdmffpfmaa", sum := "d3747c1c4904273d512eeb14431569339caa239b191f8c4bb2c82a231a4e746d", func := "loop.example/overlappingtexts/laws.FnExactLongestTwice", spec := "fnExactLongestTwice", unfollowed := true, recurses := true, apart := false, narrowed := true }
def FnExactLongestTwiceUptoSaid : Prop := fnExactLongestTwiceUptoRow.holds Try.pinned (OpenSpec.upto fnExactLongestTwiceSpec)

/-- 'laws.FnExactWindowsOf', WHERE WHAT IT READS IS OF BULK AT MOST 1048576: true; the input reads as it did. -/
def fnExactWindowsOfUptoRow : OpenClaim := { program := "ytfbmcfdmffpfmaa", sum := "d3747c1c4904273d512eeb14431569339caa239b191f8c4bb2c82a231a4e746d", func := "loop.example/overlappingtexts/laws.FnExactWindowsOf", spec := "fnExactWindowsOf", recurses := true, apart := false, narrowed := true }
def FnExactWindowsOfUptoSaid : Prop := fnExactWindowsOfUptoRow.holds Try.pinned (OpenSpec.upto fnExactWindowsOfSpec)

/-- 'laws.FnExactFactorsOf', WHERE WHAT IT READS IS OF BULK AT MOST 1048576: true; the input reads as it did. -/
def fnExactFactorsOfUptoRow : OpenClaim := { program := "ytfbmcfdmffpfmaa", sum := "d3747c1c4904273d512eeb14431569339caa239b191f8c4bb2c82a231a4e746d", func := "loop.example/overlappingtexts/laws.FnExactFactorsOf", spec := "fnExactFactorsOf", unfollowed := true, recurses := true, apart := false, narrowed := true }
def FnExactFactorsOfUptoSaid : Prop := fnExactFactorsOfUptoRow.holds Try.pinned (OpenSpec.upto fnExactFactorsOfSpec)

/-- 'laws.FnWindowsOf', WHERE WHAT IT READS IS OF BULK AT MOST 1048576: true; the input reads as it did. -/
def fnWindowsOfUptoRow : OpenClaim := { program := "ytfbmcfdmffpfmaa", sum := "d3747c1c4904273d512eeb14431569339caa239b191f8c4bb2c82a231a4e746d", func := "loop.example/overlappingtexts/laws.FnWindowsOf", spec := "fnWindowsOf", unfollowed := true, recurses := true, apart := false, narrowed := true }
def FnWindowsOfUptoSaid : Prop := fnWindowsOfUptoRow.holds Try.pinned (OpenSpec.upto fnWindowsOfSpec)

/-- 'laws.FnOnceFrom', WHERE WHAT IT READS IS OF BULK AT MOST 1048576: true; the input reads as it did. -/
def fnOnceFromUptoRow : OpenClaim := { program := "ytfbmcfdmffpfmaa", sum := "d3747c1c4904273d512eeb14431569339caa239b191f8c4bb2c82a231a4e746d", func := "loop.example/overlappingtexts/laws.FnOnceFrom", spec := "fnOnceFrom", unfollowed := true, recurses := true, apart := false, narrowed := true }
def FnOnceFromUptoSaid : Prop := fnOnceFromUptoRow.holds Try.pinned (OpenSpec.upto fnOnceFromSpec)

/-- 'laws.FnLongestTwice', WHERE WHAT IT READS IS OF BULK AT MOST 1048576: true; the input reads as it did. -/
def fnLongestTwiceUptoRow : OpenClaim := { program := "ytfbmcfdmffpfmaa", sum := "d3747c1c4904273d512eeb14431569339caa239b191f8c4bb2c82a231a4e746d", func := "loop.example/overlappingtexts/laws.FnLongestTwice", spec := "fnLongestTwice", unfollowed := true, recurses := true, apart := false, narrowed := true }
def FnLongestTwiceUptoSaid : Prop := fnLongestTwiceUptoRow.holds Try.pinned (OpenSpec.upto fnLongestTwiceSpec)

/-- 'laws.FnExactIsTold', WHERE WHAT IT READS IS OF BULK AT MOST 1048576: true; the input reads as it did. -/
def fnExactIsToldUptoRow : OpenClaim := { program := "ytfbmcfdmffpfmaa", sum := "d3747c1c4904273d512eeb14431569339caa239b191f8c4bb2c82a231a4e746d", func := "loop.example/overlappingtexts/laws.FnExactIsTold", spec := "fnExactIsTold", unfollowed := true, recurses := true, apart := false, narrowed := true }
def FnExactIsToldUptoSaid : Prop := fnExactIsToldUptoRow.holds Try.pinned (OpenSpec.upto fnExactIsToldSpec)

/-- 'laws.FnExactLeastTold', WHERE WHAT IT READS IS OF BULK AT MOST 1048576: true; the input reads as it did. -/
def fnExactLeastToldUptoRow : OpenClaim := { program := "ytfbmcfdmffpfmaa", sum := "d3747c1c4904273d512eeb14431569339caa239b191f8c4bb2c82a231a4e746d", func := "loop.example/overlappingtexts/laws.FnExactLeastTold", spec := "fnExactLeastTold", unfollowed := true, recurses := true, apart := false, narrowed := true }
def FnExactLeastToldUptoSaid : Prop := fnExactLeastToldUptoRow.holds Try.pinned (OpenSpec.upto fnExactLeastToldSpec)

/-- 'laws.FnExactTextsOf', WHERE WHAT IT READS IS OF BULK AT MOST 1048576: true; the input reads as it did. -/
def fnExactTextsOfUptoRow : OpenClaim := { program := "ytfbmcfdmffpfmaa", sum := "d3747c1c4904273d512eeb14431569339caa239b191f8c4bb2c82a231a4e746d", func := "loop.example/overlappingtexts/laws.FnExactTextsOf", spec := "fnExactTextsOf", unfollowed := true, recurses := true, apart := false, narrowed := true }
def FnExactTextsOfUptoSaid : Prop := fnExactTextsOfUptoRow.holds Try.pinned (OpenSpec.upto fnExactTextsOfSpec)

/-- 'laws.FnExactMissingOf', WHERE WHAT IT READS IS OF BULK AT MOST 1048576: true; the input reads as it did. -/
def fnExactMissingOfUptoRow : OpenClaim := { program := "ytfbmcfdmffpfmaa", sum := "d3747c1c4904273d512eeb14431569339caa239b191f8c4bb2c82a231a4e746d", func := "loop.example/overlappingtexts/laws.FnExactMissingOf", spec := "fnExactMissingOf", inPlace := ["internal/bytealg.IndexByteString", "internal/bytealg.IndexString"], unfollowed := true, recurses := true, named := ["internal/bytealg.MaxLen"], apart := false, narrowed := true }
def FnExactMissingOfUptoSaid : Prop := fnExactMissingOfUptoRow.holds Try.pinned (OpenSpec.upto fnExactMissingOfSpec)

/-- 'laws.FnExactStretchesOf', WHERE WHAT IT READS IS OF BULK AT MOST 1048576: true; the input reads as it did. -/
def fnExactStretchesOfUptoRow : OpenClaim := { program := "ytfbmcfdmffpfmaa", sum := "d3747c1c4904273d512eeb14431569339caa239b191f8c4bb2c82a231a4e746d", func := "loop.example/overlappingtexts/laws.FnExactStretchesOf", spec := "fnExactStretchesOf", unfollowed := true, recurses := true, apart := false, narrowed := true }
def FnExactStretchesOfUptoSaid : Prop := fnExactStretchesOfUptoRow.holds Try.pinned (OpenSpec.upto fnExactStretchesOfSpec)

/-- 'laws.FnFactorsOf', WHERE WHAT IT READS IS OF BULK AT MOST 1048576: true; the input reads as it did. -/
def fnFactorsOfUptoRow : OpenClaim := { program := "ytfbmcfdmffpfmaa", sum := "d3747c1c4904273d512eeb14431569339caa239b191f8c4bb2c82a231a4e746d", func := "loop.example/overlappingtexts/laws.FnFactorsOf", spec := "fnFactorsOf", inPlace := ["internal/bytealg.IndexByteString", "internal/bytealg.IndexString"], unfollowed := true, recurses := true, named := ["internal/bytealg.MaxLen"], apart := false, narrowed := true }
def FnFactorsOfUptoSaid : Prop := fnFactorsOfUptoRow.holds Try.pinned (OpenSpec.upto fnFactorsOfSpec)

/-- 'laws.FnLeastTold', WHERE WHAT IT READS IS OF BULK AT MOST 1048576: true; the input reads as it did. -/
def fnLeastToldUptoRow : OpenClaim := { program := "ytfbmcfdmffpfmaa", sum := "d3747c1c4904273d512eeb14431569339caa239b191f8c4bb2c82a231a4e746d", func := "loop.example/overlappingtexts/laws.FnLeastTold", spec := "fnLeastTold", unfollowed := true, recurses := true, apart := false, narrowed := true }
def FnLeastToldUptoSaid : Prop := fnLeastToldUptoRow.holds Try.pinned (OpenSpec.upto fnLeastToldSpec)

/-- 'laws.FnMissingOf', WHERE WHAT IT READS IS OF BULK AT MOST 1048576: true; the input reads as it did. -/
def fnMissingOfUptoRow : OpenClaim := { program := "ytfbmcfdmffpfmaa", sum := "d3747c1c4904273d512eeb14431569339caa239b191f8c4bb2c82a231a4e746d", func := "loop.example/overlappingtexts/laws.FnMissingOf", spec := "fnMissingOf", inPlace := ["internal/bytealg.IndexByteString", "internal/bytealg.IndexString"], unfollowed := true, recurses := true, named := ["internal/bytealg.MaxLen"], apart := false, narrowed := true }
def FnMissingOfUptoSaid : Prop := fnMissingOfUptoRow.holds Try.pinned (OpenSpec.upto fnMissingOfSpec)

/-- 'laws.FnIsTold', WHERE WHAT IT READS IS OF BULK AT MOST 1048576: true; the input reads as it did. -/
def fnIsToldUptoRow : OpenClaim := { program := "ytfbmcfdmffpfmaa", sum := "d3747c1c4904273d512eeb14431569339caa239b191f8c4bb2c82a231a4e746d", func := "loop.example/overlappingtexts/laws.FnIsTold", spec := "fnIsTold", unfollowed := true, recurses := true, apart := false, narrowed := true }
def FnIsToldUptoSaid : Prop := fnIsToldUptoRow.holds Try.pinned (OpenSpec.upto fnIsToldSpec)

/-- 'laws.FnStretchesOf', WHERE WHAT IT READS IS OF BULK AT MOST 1048576: true; the input reads as it did. -/
def fnStretchesOfUptoRow : OpenClaim := { program := "ytfbmcfdmffpfmaa", sum := "d3747c1c4904273d512eeb14431569339caa239b191f8c4bb2c82a231a4e746d", func := "loop.example/overlappingtexts/laws.FnStretchesOf", spec := "fnStretchesOf", unfollowed := true, recurses := true, apart := false, narrowed := true }
def FnStretchesOfUptoSaid : Prop := fnStretchesOfUptoRow.holds Try.pinned (OpenSpec.upto fnStretchesOfSpec)

/-- 'laws.FnTextsOf', WHERE WHAT IT READS IS OF BULK AT MOST 1048576: true; the input reads as it did. -/
def fnTextsOfUptoRow : OpenClaim := { program := "ytfbmcfdmffpfmaa", sum := "d3747c1c4904273d512eeb14431569339caa239b191f8c4bb2c82a231a4e746d", func := "loop.example/overlappingtexts/laws.FnTextsOf", spec := "fnTextsOf", unfollowed := true, recurses := true, apart := false, narrowed := true }
def FnTextsOfUptoSaid : Prop := fnTextsOfUptoRow.holds Try.pinned (OpenSpec.upto fnTextsOfSpec)

end Rows
end Go.Proofs.Ytfbmcfdmffpfmaa
