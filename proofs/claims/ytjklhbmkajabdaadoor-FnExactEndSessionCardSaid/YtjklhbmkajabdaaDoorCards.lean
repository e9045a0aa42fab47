/-
  DERIVED. GIVEN WITH THE SEED: THE CARDS: each row of YtjklhbmkajabdaaDoorRows.lean that lists a variable, with what it lists TIED to the program's text (the seventh form; the later family's looks); each row that meets fmt, with fmt's text TOLD by the authors' own Lean function (tested against real Go, not proved from fmt's source: count such statements apart). THE CARD IS WHAT COUNTS. Prove the row's statement (the work); the ties are given (YtjklhbmkajabdaaDoorTie.lean); close each card by the builder's one call (the guide's Derived/Test/ToyasCard.lean, 'card_holds'). Laid BY PROGRAM, IN A SANDBOX (cutbox-door.mjs). By AI agents, Wed Nov 11 2026. No macro, syntax, notation, axiom, sorry.
-/
import Derived.Test.YtjklhbmkajabdaaDoorRows
import GoSem.ClaimSeven
namespace Go.Proofs.YtjklhbmkajabdaaDoor
namespace Rows

/-- THE TIED CARD OF 'laws.FnExactEndSession'. -/
def fnExactEndSessionCard : Claim7 := { stood := { row := fnExactEndSessionRow, standIns := [], harness := (true, "7eb98f99d8c5ddf23d5cb6871be47a37fc4f8d7629f9203cedd4f0d0a626befe"), looks := false }, kinds := [], alts := [], laidByText := true, laidKinds := [.data, .pinned], laidTests := true, laidLooks := .later }
def FnExactEndSessionCardSaid : Prop := Claim7.holds Tryd.pinned (.plain (OpenSpec.ofChange fnExactEndSessionSpec)) fnExactEndSessionCard

/-- THE SECOND FORM's CARD OF 'laws.FnExactEndSession'. -/
def fnExactEndSessionUptoCard : Claim7 := { stood := { row := fnExactEndSessionUptoRow, standIns := [], harness := (true, "7eb98f99d8c5ddf23d5cb6871be47a37fc4f8d7629f9203cedd4f0d0a626befe"), looks := false }, kinds := [], alts := [], laidByText := true, laidKinds := [.data, .pinned], laidTests := true, laidLooks := .later }
def FnExactEndSessionUptoCardSaid : Prop := Claim7.holds Tryd.pinned (.plain (OpenSpec.upto fnExactEndSessionSpec)) fnExactEndSessionUptoCard
end Rows
end Go.Proofs.YtjklhbmkajabdaaDoor
