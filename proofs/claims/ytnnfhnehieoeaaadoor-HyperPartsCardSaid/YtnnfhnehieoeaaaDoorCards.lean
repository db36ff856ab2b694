/-
  DERIVED. GIVEN WITH THE SEED: THE CARDS: each row of YtnnfhnehieoeaaaDoorRows.lean that lists a variable, with what it lists TIED to the program's text (the seventh form; the later family's looks); each row that meets fmt, with fmt's text TOLD by the authors' own Lean function (tested against real Go, not proved from fmt's source: count such statements apart). THE CARD IS WHAT COUNTS. Prove the row's statement (the work); the ties are given (YtnnfhnehieoeaaaDoorTie.lean); close each card by the builder's one call (the guide's Derived/Test/ToyasCard.lean, 'card_holds'). Laid BY PROGRAM, IN A SANDBOX (cutbox-door.mjs). By AI agents, Wed Nov 11 2026. No macro, syntax, notation, axiom, sorry.
-/
import Derived.Test.YtnnfhnehieoeaaaDoorRows
import GoSem.ClaimSeven
namespace Go.Proofs.YtnnfhnehieoeaaaDoor
namespace Rows

/-- THE TIED CARD OF 'colanderlaw20.HyperTells'. -/
def hyperTellsCard : Claim7 := { stood := { row := hyperTellsRow, standIns := [], harness := (true, "c0cd74aa273c14d56f3db6674ec4da94dbee0fc76359e8647ad300fc997312ac"), looks := false }, kinds := [], alts := [], laidByText := true, laidKinds := [.data], laidTests := true, laidLooks := .later }
def HyperTellsCardSaid : Prop := Claim7.holds Tryd.pinned (.plain (OpenSpec.ofChange hyperTellsSpec)) hyperTellsCard

/-- THE TIED CARD OF 'colanderlaw20.HyperWhole'. -/
def hyperWholeCard : Claim7 := { stood := { row := hyperWholeRow, standIns := [], harness := (true, "c0cd74aa273c14d56f3db6674ec4da94dbee0fc76359e8647ad300fc997312ac"), looks := false }, kinds := [], alts := [], laidByText := true, laidKinds := [.data], laidTests := true, laidLooks := .later }
def HyperWholeCardSaid : Prop := Claim7.holds Tryd.pinned (.plain (OpenSpec.ofChange hyperWholeSpec)) hyperWholeCard

/-- THE TIED CARD OF 'colanderlaw20.HyperParts'. -/
def hyperPartsCard : Claim7 := { stood := { row := hyperPartsRow, standIns := [], harness := (true, "c0cd74aa273c14d56f3db6674ec4da94dbee0fc76359e8647ad300fc997312ac"), looks := false }, kinds := [], alts := [], laidByText := true, laidKinds := [.data], laidTests := true, laidLooks := .later }
def HyperPartsCardSaid : Prop := Claim7.holds Tryd.pinned (.plain (OpenSpec.ofChange hyperPartsSpec)) hyperPartsCard

/-- THE SECOND FORM's CARD OF 'colanderlaw20.HyperTells'. -/
def hyperTellsUptoCard : Claim7 := { stood := { row := hyperTellsUptoRow, standIns := [], harness := (true, "c0cd74aa273c14d56f3db6674ec4da94dbee0fc76359e8647ad300fc997312ac"), looks := false }, kinds := [], alts := [], laidByText := true, laidKinds := [.data], laidTests := true, laidLooks := .later }
def HyperTellsUptoCardSaid : Prop := Claim7.holds Tryd.pinned (.plain (OpenSpec.upto hyperTellsSpec)) hyperTellsUptoCard

/-- THE SECOND FORM's CARD OF 'colanderlaw20.HyperWhole'. -/
def hyperWholeUptoCard : Claim7 := { stood := { row := hyperWholeUptoRow, standIns := [], harness := (true, "c0cd74aa273c14d56f3db6674ec4da94dbee0fc76359e8647ad300fc997312ac"), looks := false }, kinds := [], alts := [], laidByText := true, laidKinds := [.data], laidTests := true, laidLooks := .later }
def HyperWholeUptoCardSaid : Prop := Claim7.holds Tryd.pinned (.plain (OpenSpec.upto hyperWholeSpec)) hyperWholeUptoCard

/-- THE SECOND FORM's CARD OF 'colanderlaw20.HyperParts'. -/
def hyperPartsUptoCard : Claim7 := { stood := { row := hyperPartsUptoRow, standIns := [], harness := (true, "c0cd74aa273c14d56f3db6674ec4da94dbee0fc76359e8647ad300fc997312ac"), looks := false }, kinds := [], alts := [], laidByText := true, laidKinds := [.data], laidTests := true, laidLooks := .later }
def HyperPartsUptoCardSaid : Prop := Claim7.holds Tryd.pinned (.plain (OpenSpec.upto hyperPartsSpec)) hyperPartsUptoCard
end Rows
end Go.Proofs.YtnnfhnehieoeaaaDoor
