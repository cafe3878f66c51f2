/-
  No cell of these rows narrows 'for every input' (looked for: loops, veiled, ifaces, maps, wideKeys, modest, calm, conditions, laid).
  DERIVED. THE GIVEN ROWS OF THIS SEAT. 12 by the template 'for every input the law returns true; each argument reads behind the call as it read before'; 0 by the template 'total and deterministic' (their statements: YtopmifidhabobaaTotals.lean).
  GIVEN WITH THE SEED: the statements are not yours to turn. If you find one false, say at which input.
  Laid BY PROGRAM, IN A SANDBOX (cutbox-rows.mjs): the forced cells as the released guide's own fill.sh prints them over the translation 4c24074746910b86… (all of the seat's roots in one cut). By AI agents, Wed Nov 11 2026. No macro, syntax, notation, axiom, sorry.
-/
import Derived.Test.YtopmifidhabobaaChecked
import GoSem.Claim
import GoSem.ClaimJoined
import GoSem.ClaimMapViews
import Derived.JoinedTies
import Derived.KernelRfl
namespace Go.Proofs.Ytopmifidhabobaa
/- THE CELL 'sum', in the pinned program and in every row, IS THE sha256 OF THE DUMP (.gsa) THAT YtopmifidhabobaaProg.lean LOADS. Nothing in Lean hashes anything: it is a label: what it is worth is what the hold of that sum in a sandbox is worth. -/
noncomputable def Try.pinned : Pinned := { name := "ytopmifidhabobaa", sum := "4c24074746910b86b31aebb15ed6ef4866bdbf3153828d5106a0fd6e8a112df5", checked := Try.checked }
namespace Rows
def none {H : Type} : Left H := { results := [], args := [] }

/-- 'laws.FnExactPlacesFor': WHATEVER THE INPUT: true; the input reads as it did. -/
def fnExactPlacesForSpec : ChangeSpec := { name := "fnExactPlacesFor", fn := fun _ => fun
  | [d] => { results := [.lit (.bool true)], args := [d] }
  | _ => none }
def fnExactPlacesForRow : OpenClaim := { program := "ytopmifidhabobaa", sum := "4c24074746910b86b31aebb15ed6ef4866bdbf3153828d5106a0fd6e8a112df5", func := "loop.example/overlappingtexts/laws.FnExactPlacesFor", spec := "fnExactPlacesFor", unfollowed := true, recurses := true, apart := false }
def FnExactPlacesForSaid : Prop := fnExactPlacesForRow.holds Try.pinned (OpenSpec.ofChange fnExactPlacesForSpec)

/-- ITS FALSE NEIGHBOUR: 'it returns false'. Refute it at one input. -/
def fnExactPlacesForWrong : ChangeSpec := { name := "fnExactPlacesFor", fn := fun _ => fun
  | [d] => { results := [.lit (.bool false)], args := [d] }
  | _ => none }
def FnExactPlacesForWrongFalsely : Prop := fnExactPlacesForRow.holds Try.pinned (OpenSpec.ofChange fnExactPlacesForWrong)

/-- 'laws.FnAreTwins': WHATEVER THE INPUT: true; the input reads as it did. -/
def fnAreTwinsSpec : ChangeSpec := { name := "fnAreTwins", fn := fun _ => fun
  | [d] => { results := [.lit (.bool true)], args := [d] }
  | _ => none }
def fnAreTwinsRow : OpenClaim := { program := "ytopmifidhabobaa", sum := "4c24074746910b86b31aebb15ed6ef4866bdbf3153828d5106a0fd6e8a112df5", func := "loop.example/overlappingtexts/laws.FnAreTwins", spec := "fnAreTwins", unfollowed := true, recurses := true, apart := false }
def FnAreTwinsSaid : Prop := fnAreTwinsRow.holds Try.pinned (OpenSpec.ofChange fnAreTwinsSpec)

/-- ITS FALSE NEIGHBOUR: 'it returns false'. Refute it at one input. -/
def fnAreTwinsWrong : ChangeSpec := { name := "fnAreTwins", fn := fun _ => fun
  | [d] => { results := [.lit (.bool false)], args := [d] }
  | _ => none }
def FnAreTwinsWrongFalsely : Prop := fnAreTwinsRow.holds Try.pinned (OpenSpec.ofChange fnAreTwinsWrong)

/-- 'laws.FnPlacesFor': WHATEVER THE INPUT: true; the input reads as it did. -/
def fnPlacesForSpec : ChangeSpec := { name := "fnPlacesFor", fn := fun _ => fun
  | [d] => { results := [.lit (.bool true)], args := [d] }
  | _ => none }
def fnPlacesForRow : OpenClaim := { program := "ytopmifidhabobaa", sum := "4c24074746910b86b31aebb15ed6ef4866bdbf3153828d5106a0fd6e8a112df5", func := "loop.example/overlappingtexts/laws.FnPlacesFor", spec := "fnPlacesFor", unfollowed := true, recurses := true, apart := false }
def FnPlacesForSaid : Prop := fnPlacesForRow.holds Try.pinned (OpenSpec.ofChange fnPlacesForSpec)

/-- ITS FALSE NEIGHBOUR: 'it returns false'. Refute it at one input. -/
def fnPlacesForWrong : ChangeSpec := { name := "fnPlacesFor", fn := fun _ => fun
  | [d] => { results := [.lit (.bool false)], args := [d] }
  | _ => none }
def FnPlacesForWrongFalsely : Prop := fnPlacesForRow.holds Try.pinned (OpenSpec.ofChange fnPlacesForWrong)

/-- 'laws.FnExactDistancesOf': WHATEVER THE INPUT: true; the input reads as it did. -/
def fnExactDistancesOfSpec : ChangeSpec := { name := "fnExactDistancesOf", fn := fun _ => fun
  | [d] => { results := [.lit (.bool true)], args := [d] }
  | _ => none }
def fnExactDistancesOfRow : OpenClaim := { program := "ytopmifidhabobaa", sum := "4c24074746910b86b31aebb15ed6ef4866bdbf3153828d5106a0fd6e8a112df5", func := "loop.example/overlappingtexts/laws.FnExactDistancesOf", spec := "fnExactDistancesOf", recurses := true, apart := false }
def FnExactDistancesOfSaid : Prop := fnExactDistancesOfRow.holds Try.pinned (OpenSpec.ofChange fnExactDistancesOfSpec)

/-- ITS FALSE NEIGHBOUR: 'it returns false'. Refute it at one input. -/
def fnExactDistancesOfWrong : ChangeSpec := { name := "fnExactDistancesOf", fn := fun _ => fun
  | [d] => { results := [.lit (.bool false)], args := [d] }
  | _ => none }
def FnExactDistancesOfWrongFalsely : Prop := fnExactDistancesOfRow.holds Try.pinned (OpenSpec.ofChange fnExactDistancesOfWrong)

/-- 'laws.FnExactIsRuler': WHATEVER THE INPUT: true; the input reads as it did. -/
def fnExactIsRulerSpec : ChangeSpec := { name := "fnExactIsRuler", fn := fun _ => fun
  | [d] => { results := [.lit (.bool true)], args := [d] }
  | _ => none }
def fnExactIsRulerRow : OpenClaim := { program := "ytopmifidhabobaa", sum := "4c24074746910b86b31aebb15ed6ef4866bdbf3153828d5106a0fd6e8a112df5", func := "loop.example/overlappingtexts/laws.FnExactIsRuler", spec := "fnExactIsRuler", recurses := true, apart := false }
def FnExactIsRulerSaid : Prop := fnExactIsRulerRow.holds Try.pinned (OpenSpec.ofChange fnExactIsRulerSpec)

/-- ITS FALSE NEIGHBOUR: 'it returns false'. Refute it at one input. -/
def fnExactIsRulerWrong : ChangeSpec := { name := "fnExactIsRuler", fn := fun _ => fun
  | [d] => { results := [.lit (.bool false)], args := [d] }
  | _ => none }
def FnExactIsRulerWrongFalsely : Prop := fnExactIsRulerRow.holds Try.pinned (OpenSpec.ofChange fnExactIsRulerWrong)

/-- 'laws.FnExactAreTwins': WHATEVER THE INPUT: true; the input reads as it did. -/
def fnExactAreTwinsSpec : ChangeSpec := { name := "fnExactAreTwins", fn := fun _ => fun
  | [d1, d2] => { results := [.lit (.bool true)], args := [d1, d2] }
  | _ => none }
def fnExactAreTwinsRow : OpenClaim := { program := "ytopmifidhabobaa", sum := "4c24074746910b86b31aebb15ed6ef4866bdbf3153828d5106a0fd6e8a112df5", func := "loop.example/overlappingtexts/laws.FnExactAreTwins", spec := "fnExactAreTwins", unfollowed := true, recurses := true, apart := false }
def FnExactAreTwinsSaid : Prop := fnExactAreTwinsRow.holds Try.pinned (OpenSpec.ofChange fnExactAreTwinsSpec)

/-- ITS FALSE NEIGHBOUR: 'it returns false'. Refute it at one input. -/
def fnExactAreTwinsWrong : ChangeSpec := { name := "fnExactAreTwins", fn := fun _ => fun
  | [d1, d2] => { results := [.lit (.bool false)], args := [d1, d2] }
  | _ => none }
def FnExactAreTwinsWrongFalsely : Prop := fnExactAreTwinsRow.holds Try.pinned (OpenSpec.ofChange fnExactAreTwinsWrong)

/-- 'laws.FnDistancesOf': WHATEVER THE INPUT: true; the input reads as it did. -/
def fnDistancesOfSpec : ChangeSpec := { name := "fnDistancesOf", fn := fun _ => fun
  | [d] => { results := [.lit (.bool true)], args := [d] }
  | _ => none }
def fnDistancesOfRow : OpenClaim := { program := "ytopmifidhabobaa", sum := "4c24074746910b86b31aebb15ed6ef4866bdbf3153828d5106a0fd6e8a112df5", func := "loop.example/overlappingtexts/laws.FnDistancesOf", spec := "fnDistancesOf", unfollowed := true, recurses := true, apart := false }
def FnDistancesOfSaid : Prop := fnDistancesOfRow.holds Try.pinned (OpenSpec.ofChange fnDistancesOfSpec)

/-- ITS FALSE NEIGHBOUR: 'it returns false'. Refute it at one input. -/
def fnDistancesOfWrong : ChangeSpec := { name := "fnDistancesOf", fn := fun _ => fun
  | [d] => { results := [.lit (.bool false)], args := [d] }
  | _ => none }
def FnDistancesOfWrongFalsely : Prop := fnDistancesOfRow.holds Try.pinned (OpenSpec.ofChange fnDistancesOfWrong)

/-- 'laws.FnIsRuler': WHATEVER THE INPUT: true; the input reads as it did. -/
def fnIsRulerSpec : ChangeSpec := { name := "fnIsRuler", fn := fun _ => fun
  | [d] => { results := [.lit (.bool true)], args := [d] }
  | _ => none }
def fnIsRulerRow : OpenClaim := { program := "ytopmifidhabobaa", sum := "4c24074746910b86b31aebb15ed6ef4866bdbf3153828d5106a0fd6e8a112df5", func := "loop.example/overlappingtexts/laws.FnIsRuler", spec := "fnIsRuler", unfollowed := true, recurses := true, apart := false }
def FnIsRulerSaid : Prop := fnIsRulerRow.holds Try.pinned (OpenSpec.ofChange fnIsRulerSpec)

/-- ITS FALSE NEIGHBOUR: 'it returns false'. Refute it at one input. -/
def fnIsRulerWrong : ChangeSpec := { name := "fnIsRuler", fn := fun _ => fun
  | [d] => { results := [.lit (.bool false)], args := [d] }
  | _ => none }
def FnIsRulerWrongFalsely : Prop := fnIsRulerRow.holds Try.pinned (OpenSpec.ofChange fnIsRulerWrong)

/-- 'laws.FnExactCutBoth': WHATEVER THE INPUT: true; the input reads as it did. -/
def fnExactCutBothSpec : ChangeSpec := { name := "fnExactCutBoth", fn := fun _ => fun
  | [d1, d2] => { results := [.lit (.bool true)], args := [d1, d2] }
  | _ => none }
def fnExactCutBothRow : OpenClaim := { program := "ytopmifidhabobaa", sum := "4c24074746910b86b31aebb15ed6ef4866bdbf3153828d5106a0fd6e8a112df5", func := "loop.example/overlappingtexts/laws.FnExactCutBoth", spec := "fnExactCutBoth", unfollowed := true, recurses := true, apart := false }
def FnExactCutBothSaid : Prop := fnExactCutBothRow.holds Try.pinned (OpenSpec.ofChange fnExactCutBothSpec)

/-- ITS FALSE NEIGHBOUR: 'it returns false'. Refute it at one input. -/
def fnExactCutBothWrong : ChangeSpec := { name := "fnExactCutBoth", fn := fun _ => fun
  | [d1, d2] => { results := [.lit (.bool false)], args := [d1, d2] }
  | _ => none }
def FnExactCutBothWrongFalsely : Prop := fnExactCutBothRow.holds Try.pinned (OpenSpec.ofChange fnExactCutBothWrong)

/-- 'laws.FnCutBoth': WHATEVER THE INPUT: true; the input reads as it did. -/
def fnCutBothSpec : ChangeSpec := { name := "fnCutBoth", fn := fun _ => fun
  | [d] => { results := [.lit (.bool true)], args := [d] }
  | _ => none }
def fnCutBothRow : OpenClaim := { program := "ytopmifidhabobaa", sum := "4c24074746910b86b31aebb15ed6ef4866bdbf3153828d5106a0fd6e8a112df5", func := "loop.example/overlappingtexts/laws.FnCutBoth", spec := "fnCutBoth", unfollowed := true, recurses := true, apart := false }
def FnCutBothSaid : Prop := fnCutBothRow.holds Try.pinned (OpenSpec.ofChange fnCutBothSpec)

/-- ITS FALSE NEIGHBOUR: 'it returns false'. Refute it at one input. -/
def fnCutBothWrong : ChangeSpec := { name := "fnCutBoth", fn := fun _ => fun
  | [d] => { results := [.lit (.bool false)], args := [d] }
  | _ => none }
def FnCutBothWrongFalsely : Prop := fnCutBothRow.holds Try.pinned (OpenSpec.ofChange fnCutBothWrong)

/-- 'laws.FnExactOrderBoth': WHATEVER THE INPUT: true; the input reads as it did. -/
def fnExactOrderBothSpec : ChangeSpec := { name := "fnExactOrderBoth", fn := fun _ => fun
  | [d1, d2, d3] => { results := [.lit (.bool true)], args := [d1, d2, d3] }
  | _ => none }
def fnExactOrderBothRow : OpenClaim := { program := "ytopmifidhabobaa", sum := "4c24074746910b86b31aebb15ed6ef4866bdbf3153828d5106a0fd6e8a112df5", func := "loop.example/overlappingtexts/laws.FnExactOrderBoth", spec := "fnExactOrderBoth", unfollowed := true, recurses := true, apart := false }
def FnExactOrderBothSaid : Prop := fnExactOrderBothRow.holds Try.pinned (OpenSpec.ofChange fnExactOrderBothSpec)

/-- ITS FALSE NEIGHBOUR: 'it returns false'. Refute it at one input. -/
def fnExactOrderBothWrong : ChangeSpec := { name := "fnExactOrderBoth", fn := fun _ => fun
  | [d1, d2, d3] => { results := [.lit (.bool false)], args := [d1, d2, d3] }
  | _ => none }
def FnExactOrderBothWrongFalsely : Prop := fnExactOrderBothRow.holds Try.pinned (OpenSpec.ofChange fnExactOrderBothWrong)

/-- 'laws.FnOrderBoth': WHATEVER THE INPUT: true; the input reads as it did. -/
def fnOrderBothSpec : ChangeSpec := { name := "fnOrderBoth", fn := fun _ => fun
  | [d] => { results := [.lit (.bool true)], args := [d] }
  | _ => none }
def fnOrderBothRow : OpenClaim := { program := "ytopmifidhabobaa", sum := "4c24074746910b86b31aebb15ed6ef4866bdbf3153828d5106a0fd6e8a112df5", func := "loop.example/overlappingtexts/laws.FnOrderBoth", spec := "fnOrderBoth", unfollowed := true, recurses := true, apart := false }
def FnOrderBothSaid : Prop := fnOrderBothRow.holds Try.pinned (OpenSpec.ofChange fnOrderBothSpec)

/-- ITS FALSE NEIGHBOUR: 'it returns false'. Refute it at one input. -/
def fnOrderBothWrong : ChangeSpec := { name := "fnOrderBoth", fn := fun _ => fun
  | [d] => { results := [.lit (.bool false)], args := [d] }
  | _ => none }
def FnOrderBothWrongFalsely : Prop := fnOrderBothRow.holds Try.pinned (OpenSpec.ofChange fnOrderBothWrong)

/- THE SECOND FORM. 'bulk': how many values and letters a reading holds, each counted each time it is reached (what is shared counts as often as it is met; a slice's spare places count too). A statement '..UptoSaid' is the law's where the arguments, and the package variables that the reading takes, are together of bulk at most 1048576: NARROWER than '..Said'. Prove '..Said' where nothing that the law and all that it calls make is longer than what came in: it says more and counts as full. Else prove '..UptoSaid'. A law counts once. -/
mutual
def uptoBulk {H : Type} : DataW H → Nat
  | .lit (.string bytes) => bytes.length + 1
  | .lit _ => 1
  | .nil => 1
  | .ptr d => uptoBulk d + 1
  | .slice elems spare => uptoBulkAll elems + uptoBulkAll spare + 1
  | .agg parts => uptoBulkAll parts + 1
  | .iface _ d => uptoBulk d + 1
  | .map entries => uptoBulkEntries entries + 1
  | .held _ => 1
def uptoBulkAll {H : Type} : List (DataW H) → Nat
  | [] => 0
  | d :: r => uptoBulk d + uptoBulkAll r
def uptoBulkEntries {H : Type} : List (Lit × DataW H) → Nat
  | [] => 0
  | x :: r => uptoBulkEntry x + uptoBulkEntries r
def uptoBulkEntry {H : Type} : Lit × DataW H → Nat
  | (.string bytes, d) => bytes.length + uptoBulk d + 1
  | (_, d) => uptoBulk d + 1
 end
def uptoSmall : (H : Type) → List (DataW H) → Bool := fun _ ds => decide (uptoBulkAll ds ≤ 1048576)
def OpenSpec.upto (s : _root_.Go.ChangeSpec) : _root_.Go.OpenSpec := { _root_.Go.OpenSpec.ofChange s with cond := some uptoSmall }

/-- 'laws.FnExactPlacesFor', WHERE WHAT IT READS IS OF BULK AT MOST 1048576: true; the input reads as it did. -/
def fnExactPlacesForUptoRow : OpenClaim := { program := "ytopmifidhabobaa", sum := "4c24074746910b86b31aebb15ed6ef4866bdbf3153828d5106a0fd6e8a112df5", func := "loop.example/overlappingtexts/laws.FnExactPlacesFor", spec := "fnExactPlacesFor", unfollowed := true, recurses := true, apart := false, narrowed := true }
def FnExactPlacesForUptoSaid : Prop := fnExactPlacesForUptoRow.holds Try.pinned (OpenSpec.upto fnExactPlacesForSpec)

/-- 'laws.FnAreTwins', WHERE WHAT IT READS IS OF BULK AT MOST 1048576: true; the input reads as it did. -/
def fnAreTwinsUptoRow : OpenClaim := { program := "ytopmifidhabobaa", sum := "4c24074746910b86b31aebb15ed6ef4866bdbf3153828d5106a0fd6e8a112df5", func := "loop.example/overlappingtexts/laws.FnAreTwins", spec := "fnAreTwins", unfollowed := true, recurses := true, apart := false, narrowed := true }
def FnAreTwinsUptoSaid : Prop := fnAreTwinsUptoRow.holds Try.pinned (OpenSpec.upto fnAreTwinsSpec)

/-- 'laws.FnPlacesFor', WHERE WHAT IT READS IS OF BULK AT MOST 1048576: true; the input reads as it did. -/
def fnPlacesForUptoRow : OpenClaim := { program := "ytopmifidhabobaa", sum := "4c24074746910b86b31aebb15ed6ef4866bdbf3153828d5106a0fd6e8a112df5", func := "loop.example/overlappingtexts/laws.FnPlacesFor", spec := "fnPlacesFor", unfollowed := true, recurses := true, apart := false, narrowed := true }
def FnPlacesForUptoSaid : Prop := fnPlacesForUptoRow.holds Try.pinned (OpenSpec.upto fnPlacesForSpec)

/-- 'laws.FnExactDistancesOf', WHERE WHAT IT READS IS OF BULK AT MOST 1048576: true; the input reads as it did. -/
def fnExactDistancesOfUptoRow : OpenClaim := { program := "ytopmifidhabobaa", sum := "4c24074746910b86b31aebb15ed6ef4866bdbf3153828d5106a0fd6e8a112df5", func := "loop.example/overlappingtexts/laws.FnExactDistancesOf", spec := "fnExactDistancesOf", recurses := true, apart := false, narrowed := true }
def FnExactDistancesOfUptoSaid : Prop := fnExactDistancesOfUptoRow.holds Try.pinned (OpenSpec.upto fnExactDistancesOfSpec)

/-- 'laws.FnExactIsRuler', WHERE WHAT IT READS IS OF BULK AT MOST 1048576: true; the input reads as it did. -/
def fnExactIsRulerUptoRow : OpenClaim := { program := "ytopmifidhabobaa", sum := "4c24074746910b86b31aebb15ed6ef4866bdbf3153828d5106a0fd6e8a112df5", func := "loop.example/overlappingtexts/laws.FnExactIsRuler", spec := "fnExactIsRuler", recurses := true, apart := false, narrowed := true }
def FnExactIsRulerUptoSaid : Prop := fnExactIsRulerUptoRow.holds Try.pinned (OpenSpec.upto fnExactIsRulerSpec)

/-- 'laws.FnExactAreTwins', WHERE WHAT IT READS IS OF BULK AT MOST 1048576: true; the input reads as it did. -/
def fnExactAreTwinsUptoRow : OpenClaim := { program := "ytopmifidhabobaa", sum := "4c24074746910b86b31aebb15ed6ef4866bdbf3153828d5106a0fd6e8a112df5", func := "loop.example/overlappingtexts/laws.FnExactAreTwins", spec := "fnExactAreTwins", unfollowed := true, recurses := true, apart := false, narrowed := true }
def FnExactAreTwinsUptoSaid : Prop := fnExactAreTwinsUptoRow.holds Try.pinned (OpenSpec.upto fnExactAreTwinsSpec)

/-- 'laws.FnDistancesOf', WHERE WHAT IT READS IS OF BULK AT MOST 1048576: true; the input reads as it did. -/
def fnDistancesOfUptoRow : OpenClaim := { program := "ytopmifidhabobaa", sum := "4c24074746910b86b31aebb15ed6ef4866bdbf3153828d5106a0fd6e8a112df5", func := "loop.example/overlappingtexts/laws.FnDistancesOf", spec := "fnDistancesOf", unfollowed := true, recurses := true, apart := false, narrowed := true }
def FnDistancesOfUptoSaid : Prop := fnDistancesOfUptoRow.holds Try.pinned (OpenSpec.upto fnDistancesOfSpec)

/-- 'laws.FnIsRuler', WHERE WHAT IT READS IS OF BULK AT MOST 1048576: true; the input reads as it did. -/
def fnIsRulerUptoRow : OpenClaim := { program := "ytopmifidhabobaa", sum := "4c24074746910b86b31aebb15ed6ef4866bdbf3153828d5106a0fd6e8a112df5", func := "loop.example/overlappingtexts/laws.FnIsRuler", spec := "fnIsRuler", unfollowed := true, recurses := true, apart := false, narrowed := true }
def FnIsRulerUptoSaid : Prop := fnIsRulerUptoRow.holds Try.pinned (OpenSpec.upto fnIsRulerSpec)

/-- 'laws.FnExactCutBoth', WHERE WHAT IT READS IS OF BULK AT MOST 1048576: true; the input reads as it did. -/
def fnExactCutBothUptoRow : OpenClaim := { program := "ytopmifidhabobaa", sum := "4c24074746910b86b31aebb15ed6ef4866bdbf3153828d5106a0fd6e8a112df5", func := "loop.example/overlappingtexts/laws.FnExactCutBoth", spec := "fnExactCutBoth", unfollowed := true, recurses := true, apart := false, narrowed := true }
def FnExactCutBothUptoSaid : Prop := fnExactCutBothUptoRow.holds Try.pinned (OpenSpec.upto fnExactCutBothSpec)

/-- 'laws.FnCutBoth', WHERE WHAT IT READS IS OF BULK AT MOST 1048576: true; the input reads as it did. -/
def fnCutBothUptoRow : OpenClaim := { program := "ytopmifidhabobaa", sum := "4c24074746910b86b31aebb15ed6ef4866bdbf3153828d5106a0fd6e8a112df5", func := "loop.example/overlappingtexts/laws.FnCutBoth", spec := "fnCutBoth", unfollowed := true, recurses := true, apart := false, narrowed := true }
def FnCutBothUptoSaid : Prop := fnCutBothUptoRow.holds Try.pinned (OpenSpec.upto fnCutBothSpec)

/-- 'laws.FnExactOrderBoth', WHERE WHAT IT READS IS OF BULK AT MOST 1048576: true; the input reads as it did. -/
def fnExactOrderBothUptoRow : OpenClaim := { program := "ytopmifidhabobaa", sum := "4c24074746910b86b31aebb15ed6ef4866bdbf3153828d5106a0fd6e8a112df5", func := "loop.example/overlappingtexts/laws.FnExactOrderBoth", spec := "fnExactOrderBoth", unfollowed := true, recurses := true, apart := false, narrowed := true }
def FnExactOrderBothUptoSaid : Prop := fnExactOrderBothUptoRow.holds Try.pinned (OpenSpec.upto fnExactOrderBothSpec)

/-- 'laws.FnOrderBoth', WHERE WHAT IT READS IS OF BULK AT MOST 1048576: true; the input reads as it did. -/
def fnOrderBothUptoRow : OpenClaim := { program := "ytopmifidhabobaa", sum := "4c24074746910b86b31aebb15ed6ef4866bdbf3153828d5106a0fd6e8a112df5", func := "loop.example/overlappingtexts/laws.FnOrderBoth", spec := "fnOrderBoth", unfollowed := true, recurses := true, apart := false, narrowed := true }
def FnOrderBothUptoSaid : Prop := fnOrderBothUptoRow.holds Try.pinned (OpenSpec.upto fnOrderBothSpec)

end Rows
end Go.Proofs.Ytopmifidhabobaa
