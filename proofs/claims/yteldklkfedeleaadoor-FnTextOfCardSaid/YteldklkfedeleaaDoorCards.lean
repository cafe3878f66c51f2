/-
  DERIVED. GIVEN WITH THE SEED: THE CARDS: each row of YteldklkfedeleaaDoorRows.lean that lists a variable, with what it lists TIED to the program's text (the seventh form; the later family's looks); each row that meets fmt, with fmt's text TOLD by the authors' own Lean function (tested against real Go, not proved from fmt's source: count such statements apart). THE CARD IS WHAT COUNTS. Prove the row's statement (the work); the ties are given (YteldklkfedeleaaDoorTie.lean); close each card by the builder's one call (the guide's Derived/Test/ToyasCard.lean, 'card_holds'). Laid BY PROGRAM, IN A SANDBOX (cutbox-door.mjs). By AI agents, Wed Nov 11 2026. No macro, syntax, notation, axiom, sorry.
-/
import Derived.Test.YteldklkfedeleaaDoorRows
import GoSem.ClaimSeven
namespace Go.Proofs.YteldklkfedeleaaDoor
namespace Rows

/-- THE TIED CARD OF 'laws.FnPhrasesOf'. -/
def fnPhrasesOfCard : Claim7 := { stood := { row := fnPhrasesOfRow, standIns := [], harness := (true, "6d58d8e1434dcad7e58fb55cb7a4444a1d957d001bac90ce5a9f979acae71b4b"), looks := true }, kinds := [], alts := [], laidByText := true, laidKinds := [.handle], laidTests := true, laidLooks := .later }
def FnPhrasesOfCardSaid : Prop := Claim7.holds Tryd.pinned (.plain (OpenSpec.ofChange fnPhrasesOfSpec)) fnPhrasesOfCard

/-- THE TIED CARD OF 'laws.FnTextOf'. -/
def fnTextOfCard : Claim7 := { stood := { row := fnTextOfRow, standIns := [], harness := (true, "6d58d8e1434dcad7e58fb55cb7a4444a1d957d001bac90ce5a9f979acae71b4b"), looks := true }, kinds := [], alts := [], laidByText := true, laidKinds := [.handle], laidTests := true, laidLooks := .later }
def FnTextOfCardSaid : Prop := Claim7.holds Tryd.pinned (.plain (OpenSpec.ofChange fnTextOfSpec)) fnTextOfCard

/-- THE SECOND FORM's CARD OF 'laws.FnPhrasesOf'. -/
def fnPhrasesOfUptoCard : Claim7 := { stood := { row := fnPhrasesOfUptoRow, standIns := [], harness := (true, "6d58d8e1434dcad7e58fb55cb7a4444a1d957d001bac90ce5a9f979acae71b4b"), looks := true }, kinds := [], alts := [], laidByText := true, laidKinds := [.handle], laidTests := true, laidLooks := .later }
def FnPhrasesOfUptoCardSaid : Prop := Claim7.holds Tryd.pinned (.plain (OpenSpec.upto fnPhrasesOfSpec)) fnPhrasesOfUptoCard

/-- THE SECOND FORM's CARD OF 'laws.FnTextOf'. -/
def fnTextOfUptoCard : Claim7 := { stood := { row := fnTextOfUptoRow, standIns := [], harness := (true, "6d58d8e1434dcad7e58fb55cb7a4444a1d957d001bac90ce5a9f979acae71b4b"), looks := true }, kinds := [], alts := [], laidByText := true, laidKinds := [.handle], laidTests := true, laidLooks := .later }
def FnTextOfUptoCardSaid : Prop := Claim7.holds Tryd.pinned (.plain (OpenSpec.upto fnTextOfSpec)) fnTextOfUptoCard
end Rows
end Go.Proofs.YteldklkfedeleaaDoor
