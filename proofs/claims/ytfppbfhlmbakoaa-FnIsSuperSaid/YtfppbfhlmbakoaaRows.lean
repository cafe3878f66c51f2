/-
  No cell of these rows narrows 'for every input' (looked for: loops, veiled, ifaces, maps, wideKeys, modest, calm, conditions, laid).
  DERIVED. THE GIVEN ROWS OF THIS SEAT. 9 by the template 'for every input the law returns true; each argument reads behind the call as it read before'; 0 by the template 'total and deterministic' (their statements: YtfppbfhlmbakoaaTotals.lean).
  GIVEN WITH THE SEED: the statements are not yours to turn. If you find one false, say at which input.
  Laid BY PROGRAM, IN A SANDBOX (cutbox-rows.mjs): the forced cells as the released guide's own fill.sh prints them over the translation 7f5ca6b000a129e4… (all of the seat's roots in one cut). By AI agents, Wed Nov 11 2026. No macro, syntax, notation, axiom, sorry.
-/
import Derived.Test.YtfppbfhlmbakoaaChecked
import GoSem.Claim
import GoSem.ClaimJoined
import GoSem.ClaimMapViews
import Derived.JoinedTies
import Derived.KernelRfl
namespace Go.Proofs.Ytfppbfhlmbakoaa
/- THE CELL 'sum', in the pinned program and in every row, IS THE sha256 OF THE DUMP (.gsa) THAT YtfppbfhlmbakoaaProg.lean LOADS. Nothing in Lean hashes anything: it is a label: what it is worth is what the hold of that sum in a sandbox is worth. -/
noncomputable def Try.pinned : Pinned := { name := "ytfppbfhlmbakoaa", sum := "7f5ca6b000a129e41adb4dd031d496e7e9534200f2fb20179935146228a2b48e", checked := Try.checked }
namespace Rows
def none {H : Type} : Left H := { results := [], args := [] }

/-- 'laws.FnExactCoverLength': WHATEVER THE INPUT: true; the input reads as it did. -/
def fnExactCoverLengthSpec : ChangeSpec := { name := "fnExactCoverLength", fn := fun _ => fun
  | [d] => { results := [.lit (.bool true)], args := [d] }
  | _ => none }
def fnExactCoverLengthRow : OpenClaim := { program := "ytfppbfhlmbakoaa", sum := "7f5ca6b000a129e41adb4dd031d496e7e9534200f2fb20179935146228a2b48e", func := "loop.example/overlappingtexts/laws.FnExactCoverLength", spec := "fnExactCoverLength", inPlace := ["internal/bytealg.IndexByteString", "internal/bytealg.IndexString"], unfollowed := true, recurses := true, named := ["internal/bytealg.MaxLen"], apart := false }
def FnExactCoverLengthSaid : Prop := fnExactCoverLengthRow.holds Try.pinned (OpenSpec.ofChange fnExactCoverLengthSpec)

/-- ITS FALSE NEIGHBOUR: 'it returns false'. Refute it at one input. -/
def fnExactCoverLengthWrong : ChangeSpec := { name := "fnExactCoverLength", fn := fun _ => fun
  | [d] => { results := [.lit (.bool false)], args := [d] }
  | _ => none }
def FnExactCoverLengthWrongFalsely : Prop := fnExactCoverLengthRow.holds Try.pinned (OpenSpec.ofChange fnExactCoverLengthWrong)

/-- 'laws.FnExactRingLength': WHATEVER THE INPUT: true; the input reads as it did. -/
def fnExactRingLengthSpec : ChangeSpec := { name := "fnExactRingLength", fn := fun _ => fun
  | [d] => { results := [.lit (.bool true)], args := [d] }
  | _ => none }
def fnExactRingLengthRow : OpenClaim := { program := "ytfppbfhlmbakoaa", sum := "7f5ca6b000a129e41adb4dd031d496e7e9534200f2fb20179935146228a2b48e", func := "loop.example/overlappingtexts/laws.FnExactRingLength", spec := "fnExactRingLength", inPlace := ["internal/bytealg.IndexByteString", "internal/bytealg.IndexString"], unfollowed := true, recurses := true, named := ["internal/bytealg.MaxLen"], apart := false }
def FnExactRingLengthSaid : Prop := fnExactRingLengthRow.holds Try.pinned (OpenSpec.ofChange fnExactRingLengthSpec)

/-- ITS FALSE NEIGHBOUR: 'it returns false'. Refute it at one input. -/
def fnExactRingLengthWrong : ChangeSpec := { name := "fnExactRingLength", fn := fun _ => fun
  | [d] => { results := [.lit (.bool false)], args := [d] }
  | _ => none }
def FnExactRingLengthWrongFalsely : Prop := fnExactRingLengthRow.holds Try.pinned (OpenSpec.ofChange fnExactRingLengthWrong)

/-- 'laws.FnExactShortestSuper': WHATEVER THE INPUT: true; the input reads as it did. -/
def fnExactShortestSuperSpec : ChangeSpec := { name := "fnExactShortestSuper", fn := fun _ => fun
  | [d] => { results := [.lit (.bool true)], args := [d] }
  | _ => none }
def fnExactShortestSuperRow : OpenClaim := { program := "ytfppbfhlmbakoaa", sum := "7f5ca6b000a129e41adb4dd031d496e7e9534200f2fb20179935146228a2b48e", func := "loop.example/overlappingtexts/laws.FnExactShortestSuper", spec := "fnExactShortestSuper", inPlace := ["internal/bytealg.IndexByteString", "internal/bytealg.IndexString"], unfollowed := true, recurses := true, named := ["internal/bytealg.MaxLen"], apart := false }
def FnExactShortestSuperSaid : Prop := fnExactShortestSuperRow.holds Try.pinned (OpenSpec.ofChange fnExactShortestSuperSpec)

/-- ITS FALSE NEIGHBOUR: 'it returns false'. Refute it at one input. -/
def fnExactShortestSuperWrong : ChangeSpec := { name := "fnExactShortestSuper", fn := fun _ => fun
  | [d] => { results := [.lit (.bool false)], args := [d] }
  | _ => none }
def FnExactShortestSuperWrongFalsely : Prop := fnExactShortestSuperRow.holds Try.pinned (OpenSpec.ofChange fnExactShortestSuperWrong)

/-- 'laws.FnExactGreedySuper': WHATEVER THE INPUT: true; the input reads as it did. -/
def fnExactGreedySuperSpec : ChangeSpec := { name := "fnExactGreedySuper", fn := fun _ => fun
  | [d] => { results := [.lit (.bool true)], args := [d] }
  | _ => none }
def fnExactGreedySuperRow : OpenClaim := { program := "ytfppbfhlmbakoaa", sum := "7f5ca6b000a129e41adb4dd031d496e7e9534200f2fb20179935146228a2b48e", func := "loop.example/overlappingtexts/laws.FnExactGreedySuper", spec := "fnExactGreedySuper", inPlace := ["internal/bytealg.IndexByteString", "internal/bytealg.IndexString", "internal/abi.NoEscape", "internal/bytealg.MakeNoZero"], unfollowed := true, recurses := true, named := ["internal/bytealg.MaxLen"], apart := false }
def FnExactGreedySuperSaid : Prop := fnExactGreedySuperRow.holds Try.pinned (OpenSpec.ofChange fnExactGreedySuperSpec)

/-- ITS FALSE NEIGHBOUR: 'it returns false'. Refute it at one input. -/
def fnExactGreedySuperWrong : ChangeSpec := { name := "fnExactGreedySuper", fn := fun _ => fun
  | [d] => { results := [.lit (.bool false)], args := [d] }
  | _ => none }
def FnExactGreedySuperWrongFalsely : Prop := fnExactGreedySuperRow.holds Try.pinned (OpenSpec.ofChange fnExactGreedySuperWrong)

/-- 'laws.FnCoverLength': WHATEVER THE INPUT: true; the input reads as it did. -/
def fnCoverLengthSpec : ChangeSpec := { name := "fnCoverLength", fn := fun _ => fun
  | [d] => { results := [.lit (.bool true)], args := [d] }
  | _ => none }
def fnCoverLengthRow : OpenClaim := { program := "ytfppbfhlmbakoaa", sum := "7f5ca6b000a129e41adb4dd031d496e7e9534200f2fb20179935146228a2b48e", func := "loop.example/overlappingtexts/laws.FnCoverLength", spec := "fnCoverLength", inPlace := ["internal/bytealg.IndexByteString", "internal/bytealg.IndexString"], unfollowed := true, recurses := true, named := ["internal/bytealg.MaxLen"], apart := false }
def FnCoverLengthSaid : Prop := fnCoverLengthRow.holds Try.pinned (OpenSpec.ofChange fnCoverLengthSpec)

/-- ITS FALSE NEIGHBOUR: 'it returns false'. Refute it at one input. -/
def fnCoverLengthWrong : ChangeSpec := { name := "fnCoverLength", fn := fun _ => fun
  | [d] => { results := [.lit (.bool false)], args := [d] }
  | _ => none }
def FnCoverLengthWrongFalsely : Prop := fnCoverLengthRow.holds Try.pinned (OpenSpec.ofChange fnCoverLengthWrong)

/-- 'laws.FnRingLength': WHATEVER THE INPUT: true; the input reads as it did. -/
def fnRingLengthSpec : ChangeSpec := { name := "fnRingLength", fn := fun _ => fun
  | [d] => { results := [.lit (.bool true)], args := [d] }
  | _ => none }
def fnRingLengthRow : OpenClaim := { program := "ytfppbfhlmbakoaa", sum := "7f5ca6b000a129e41adb4dd031d496e7e9534200f2fb20179935146228a2b48e", func := "loop.example/overlappingtexts/laws.FnRingLength", spec := "fnRingLength", inPlace := ["internal/bytealg.IndexByteString", "internal/bytealg.IndexString"], unfollowed := true, recurses := true, named := ["internal/bytealg.MaxLen"], apart := false }
def FnRingLengthSaid : Prop := fnRingLengthRow.holds Try.pinned (OpenSpec.ofChange fnRingLengthSpec)

/-- ITS FALSE NEIGHBOUR: 'it returns false'. Refute it at one input. -/
def fnRingLengthWrong : ChangeSpec := { name := "fnRingLength", fn := fun _ => fun
  | [d] => { results := [.lit (.bool false)], args := [d] }
  | _ => none }
def FnRingLengthWrongFalsely : Prop := fnRingLengthRow.holds Try.pinned (OpenSpec.ofChange fnRingLengthWrong)

/-- 'laws.FnIsSuper': WHATEVER THE INPUT: true; the input reads as it did. -/
def fnIsSuperSpec : ChangeSpec := { name := "fnIsSuper", fn := fun _ => fun
  | [d] => { results := [.lit (.bool true)], args := [d] }
  | _ => none }
def fnIsSuperRow : OpenClaim := { program := "ytfppbfhlmbakoaa", sum := "7f5ca6b000a129e41adb4dd031d496e7e9534200f2fb20179935146228a2b48e", func := "loop.example/overlappingtexts/laws.FnIsSuper", spec := "fnIsSuper", inPlace := ["internal/bytealg.IndexByteString", "internal/bytealg.IndexString"], unfollowed := true, recurses := true, named := ["internal/bytealg.MaxLen"], apart := false }
def FnIsSuperSaid : Prop := fnIsSuperRow.holds Try.pinned (OpenSpec.ofChange fnIsSuperSpec)

/-- ITS FALSE NEIGHBOUR: 'it returns false'. Refute it at one input. -/
def fnIsSuperWrong : ChangeSpec := { name := "fnIsSuper", fn := fun _ => fun
  | [d] => { results := [.lit (.bool false)], args := [d] }
  | _ => none }
def FnIsSuperWrongFalsely : Prop := fnIsSuperRow.holds Try.pinned (OpenSpec.ofChange fnIsSuperWrong)

/-- 'laws.FnGreedySuper': WHATEVER THE INPUT: true; the input reads as it did. -/
def fnGreedySuperSpec : ChangeSpec := { name := "fnGreedySuper", fn := fun _ => fun
  | [d] => { results := [.lit (.bool true)], args := [d] }
  | _ => none }
def fnGreedySuperRow : OpenClaim := { program := "ytfppbfhlmbakoaa", sum := "7f5ca6b000a129e41adb4dd031d496e7e9534200f2fb20179935146228a2b48e", func := "loop.example/overlappingtexts/laws.FnGreedySuper", spec := "fnGreedySuper", inPlace := ["internal/bytealg.IndexByteString", "internal/bytealg.IndexString", "internal/abi.NoEscape", "internal/bytealg.MakeNoZero"], unfollowed := true, recurses := true, named := ["internal/bytealg.MaxLen"], apart := false }
def FnGreedySuperSaid : Prop := fnGreedySuperRow.holds Try.pinned (OpenSpec.ofChange fnGreedySuperSpec)

/-- ITS FALSE NEIGHBOUR: 'it returns false'. Refute it at one input. -/
def fnGreedySuperWrong : ChangeSpec := { name := "fnGreedySuper", fn := fun _ => fun
  | [d] => { results := [.lit (.bool false)], args := [d] }
  | _ => none }
def FnGreedySuperWrongFalsely : Prop := fnGreedySuperRow.holds Try.pinned (OpenSpec.ofChange fnGreedySuperWrong)

/-- 'laws.FnShortestSuper': WHATEVER THE INPUT: true; the input reads as it did. -/
def fnShortestSuperSpec : ChangeSpec := { name := "fnShortestSuper", fn := fun _ => fun
  | [d] => { results := [.lit (.bool true)], args := [d] }
  | _ => none }
def fnShortestSuperRow : OpenClaim := { program := "ytfppbfhlmbakoaa", sum := "7f5ca6b000a129e41adb4dd031d496e7e9534200f2fb20179935146228a2b48e", func := "loop.example/overlappingtexts/laws.FnShortestSuper", spec := "fnShortestSuper", inPlace := ["internal/bytealg.IndexByteString", "internal/bytealg.IndexString", "internal/abi.NoEscape", "internal/bytealg.MakeNoZero"], unfollowed := true, recurses := true, named := ["internal/bytealg.MaxLen"], apart := false }
def FnShortestSuperSaid : Prop := fnShortestSuperRow.holds Try.pinned (OpenSpec.ofChange fnShortestSuperSpec)

/-- ITS FALSE NEIGHBOUR: 'it returns false'. Refute it at one input. -/
def fnShortestSuperWrong : ChangeSpec := { name := "fnShortestSuper", fn := fun _ => fun
  | [d] => { results := [.lit (.bool false)], args := [d] }
  | _ => none }
def FnShortestSuperWrongFalsely : Prop := fnShortestSuperRow.holds Try.pinned (OpenSpec.ofChange fnShortestSuperWrong)

/- THE SECOND FORM. 'bulk': how many values and letters a reading holds, each counted each time it is reached (what is shared counts as often as it is met; a slice's spare places count too). A statement '..UptoSaid' is the law's where the arguments, and the package variables that the reading takes, are together of bulk at most 1048576: NARROWER than '..Said'. Prove '..Said' where nothing that the law and all that it calls make is longer than what came in: it says more and counts as full. Else prove '..UptoSaid'. A law counts once. -/
mutual
def uptoBulk {H : Type} : DataW H → Nat
  | .lit (.string bytes) => bytes.length + 1
  | .lit _ => 1
  | .nil => 1
  | .ptr d => uptoBulk d + 1
  | .slice elems spare => uptoBulkAll elems + uptoBulkAll spare + 1
  | .agg parts => uptoBulkAll parts + 1
  | .iface _ d => uptoBulk d + 1
  | .map entries => uptoBulkEntries entries + 1
  | .held _ => 1
def uptoBulkAll {H : Type} : List (DataW H) → Nat
  | [] => 0
  | d :: r => uptoBulk d + uptoBulkAll r
def uptoBulkEntries {H : Type} : List (Lit × DataW H) → Nat
  | [] => 0
  | x :: r => uptoBulkEntry x + uptoBulkEntries r
def uptoBulkEntry {H : Type} : Lit × DataW H → Nat
  | (.string bytes, d) => bytes.length + uptoBulk d + 1
  | (_, d) => uptoBulk d + 1
 end
def uptoSmall : (H : Type) → List (DataW H) → Bool := fun _ ds => decide (uptoBulkAll ds ≤ 1048576)
def OpenSpec.upto (s : _root_.Go.ChangeSpec) : _root_.Go.OpenSpec := { _root_.Go.OpenSpec.ofChange s with cond := some uptoSmall }

/-- 'laws.FnExactCoverLength', WHERE WHAT IT READS IS OF BULK AT MOST 1048576: true; the input reads as it did. -/
def fnExactCoverLengthUptoRow : OpenClaim := { program := "ytfppbfhlmbakoaa", sum := "7f5ca6b000a129e41adb4dd031d496e7e9534200f2fb20179935146228a2b48e", func := "loop.example/overlappingtexts/laws.FnExactCoverLength", spec := "fnExactCoverLength", inPlace := ["internal/bytealg.IndexByteString", "internal/bytealg.IndexString"], unfollowed := true, recurses := true, named := ["internal/bytealg.MaxLen"], apart := false, narrowed := true }
def FnExactCoverLengthUptoSaid : Prop := fnExactCoverLengthUptoRow.holds Try.pinned (OpenSpec.upto fnExactCoverLengthSpec)

/-- 'laws.FnExactRingLength', WHERE WHAT IT READS IS OF BULK AT MOST 1048576: true; the input reads as it did. -/
def fnExactRingLengthUptoRow : OpenClaim := { program := "ytfppbfhlmbakoaa", sum := "7f5ca6b000a129e41adb4dd031d496e7e9534200f2fb20179935146228a2b48e", func := "loop.example/overlappingtexts/laws.FnExactRingLength", spec := "fnExactRingLength", inPlace := ["internal/bytealg.IndexByteString", "internal/bytealg.IndexString"], unfollowed := true, recurses := true, named := ["internal/bytealg.MaxLen"], apart := false, narrowed := true }
def FnExactRingLengthUptoSaid : Prop := fnExactRingLengthUptoRow.holds Try.pinned (OpenSpec.upto fnExactRingLengthSpec)

/-- 'laws.FnExactShortestSuper', WHERE WHAT IT READS IS OF BULK AT MOST 1048576: true; the input reads as it did. -/
def fnExactShortestSuperUptoRow : OpenClaim := { program := "ytfppbfhlmbakoaa", sum := "7f5ca6b000a129e41adb4dd031d496e7e9534200f2fb20179935146228a2b48e", func := "loop.example/overlappingtexts/laws.FnExactShortestSuper", spec := "fnExactShortestSuper", inPlace := ["internal/bytealg.IndexByteString", "internal/bytealg.IndexString"], unfollowed := true, recurses := true, named := ["internal/bytealg.MaxLen"], apart := false, narrowed := true }
def FnExactShortestSuperUptoSaid : Prop := fnExactShortestSuperUptoRow.holds Try.pinned (OpenSpec.upto fnExactShortestSuperSpec)

/-- 'laws.FnExactGreedySuper', WHERE WHAT IT READS IS OF BULK AT MOST 1048576: true; the input reads as it did. -/
def fnExactGreedySuperUptoRow : OpenClaim := { program := "ytfppbfhlmbakoaa", sum := "7f5ca6b000a129e41adb4dd031d496e7e9534200f2fb20179935146228a2b48e", func := "loop.example/overlappingtexts/laws.FnExactGreedySuper", spec := "fnExactGreedySuper", inPlace := ["internal/bytealg.IndexByteString", "internal/bytealg.IndexString", "internal/abi.NoEscape", "internal/bytealg.MakeNoZero"], unfollowed := true, recurses := true, named := ["internal/bytealg.MaxLen"], apart := false, narrowed := true }
def FnExactGreedySuperUptoSaid : Prop := fnExactGreedySuperUptoRow.holds Try.pinned (OpenSpec.upto fnExactGreedySuperSpec)

/-- 'laws.FnCoverLength', WHERE WHAT IT READS IS OF BULK AT MOST 1048576: true; the input reads as it did. -/
def fnCoverLengthUptoRow : OpenClaim := { program := "ytfppbfhlmbakoaa", sum := "7f5ca6b000a129e41adb4dd031d496e7e9534200f2fb20179935146228a2b48e", func := "loop.example/overlappingtexts/laws.FnCoverLength", spec := "fnCoverLength", inPlace := ["internal/bytealg.IndexByteString", "internal/bytealg.IndexString"], unfollowed := true, recurses := true, named := ["internal/bytealg.MaxLen"], apart := false, narrowed := true }
def FnCoverLengthUptoSaid : Prop := fnCoverLengthUptoRow.holds Try.pinned (OpenSpec.upto fnCoverLengthSpec)

/-- 'laws.FnRingLength', WHERE WHAT IT READS IS OF BULK AT MOST 1048576: true; the input reads as it did. -/
def fnRingLengthUptoRow : OpenClaim := { program := "ytfppbfhlmbakoaa", sum := "7f5ca6b000a129e41adb4dd031d496e7e9534200f2fb20179935146228a2b48e", func := "loop.example/overlappingtexts/laws.FnRingLength", spec := "fnRingLength", inPlace := ["internal/bytealg.IndexByteString", "internal/bytealg.IndexString"], unfollowed := true, recurses := true, named := ["internal/bytealg.MaxLen"], apart := false, narrowed := true }
def FnRingLengthUptoSaid : Prop := fnRingLengthUptoRow.holds Try.pinned (OpenSpec.upto fnRingLengthSpec)

/-- 'laws.FnIsSuper', WHERE WHAT IT READS IS OF BULK AT MOST 1048576: true; the input reads as it did. -/
def fnIsSuperUptoRow : OpenClaim := { program := "ytfppbfhlmbakoaa", sum := "7f5ca6b000a129e41adb4dd031d496e7e9534200f2fb20179935146228a2b48e", func := "loop.example/overlappingtexts/laws.FnIsSuper", spec := "fnIsSuper", inPlace := ["internal/bytealg.IndexByteString", "internal/bytealg.IndexString"], unfollowed := true, recurses := true, named := ["internal/bytealg.MaxLen"], apart := false, narrowed := true }
def FnIsSuperUptoSaid : Prop := fnIsSuperUptoRow.holds Try.pinned (OpenSpec.upto fnIsSuperSpec)

/-- 'laws.FnGreedySuper', WHERE WHAT IT READS IS OF BULK AT MOST 1048576: true; the input reads as it did. -/
def fnGreedySuperUptoRow : OpenClaim := { program := "ytfppbfhlmbakoaa", sum := "7f5ca6b000a129e41adb4dd031d496e7e9534200f2fb20179935146228a2b48e", func := "loop.example/overlappingtexts/laws.FnGreedySuper", spec := "fnGreedySuper", inPlace := ["internal/bytealg.IndexByteString", "internal/bytealg.IndexString", "internal/abi.NoEscape", "internal/bytealg.MakeNoZero"], unfollowed := true, recurses := true, named := ["internal/bytealg.MaxLen"], apart := false, narrowed := true }
def FnGreedySuperUptoSaid : Prop := fnGreedySuperUptoRow.holds Try.pinned (OpenSpec.upto fnGreedySuperSpec)

/-- 'laws.FnShortestSuper', WHERE WHAT IT READS IS OF BULK AT MOST 1048576: true; the input reads as it did. -/
def fnShortestSuperUptoRow : OpenClaim := { program := "ytfppbfhlmbakoaa", sum := "7f5ca6b000a129e41adb4dd031d496e7e9534200f2fb20179935146228a2b48e", func := "loop.example/overlappingtexts/laws.FnShortestSuper", spec := "fnShortestSuper", inPlace := ["internal/bytealg.IndexByteString", "internal/bytealg.IndexString", "internal/abi.NoEscape", "internal/bytealg.MakeNoZero"], unfollowed := true, recurses := true, named := ["internal/bytealg.MaxLen"], apart := false, narrowed := true }
def FnShortestSuperUptoSaid : Prop := fnShortestSuperUptoRow.holds Try.pinned (OpenSpec.upto fnShortestSuperSpec)

end Rows
end Go.Proofs.Ytfppbfhlmbakoaa
