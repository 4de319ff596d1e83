/-
  DERIVED. GIVEN WITH THE SEED: THE CARDS: each row of YtgknjokjpaodlaaDoorRows.lean that lists a variable, with what it lists TIED to the program's text (the seventh form; the later family's looks); each row that meets fmt, with fmt's text TOLD by the authors' own Lean function (tested against real Go, not proved from fmt's source: count such statements apart). THE CARD IS WHAT COUNTS. Prove the row's statement (the work); the ties are given (YtgknjokjpaodlaaDoorTie.lean); close each card by the builder's one call (the guide's Derived/Test/ToyasCard.lean, 'card_holds'). Laid BY PROGRAM, IN A SANDBOX (cutbox-door.mjs). By AI agents, Wed Nov 11 2026. No macro, syntax, notation, axiom, sorry.
-/
import Derived.Test.YtgknjokjpaodlaaDoorRows
import GoSem.ClaimSeven
namespace Go.Proofs.YtgknjokjpaodlaaDoor
namespace Rows

/-- THE TIED CARD OF 'culvertlaw28.PlainCloses'. -/
def plainClosesCard : Claim7 := { stood := { row := plainClosesRow, standIns := [], harness := (true, "ed157a174d5a4116306541f1eb9174fc30b7e470933424e5c07790c2371b5123"), looks := false }, kinds := [], alts := [], laidByText := true, laidKinds := [.widerDeep], laidTests := true, laidLooks := .later }
def PlainClosesCardSaid : Prop := Claim7.holds Tryd.pinned (.plain (OpenSpec.ofChange plainClosesSpec)) plainClosesCard

/-- THE TIED CARD OF 'culvertlaw28.PlainWay'. -/
def plainWayCard : Claim7 := { stood := { row := plainWayRow, standIns := [], harness := (true, "ed157a174d5a4116306541f1eb9174fc30b7e470933424e5c07790c2371b5123"), looks := false }, kinds := [], alts := [], laidByText := true, laidKinds := [.widerDeep], laidTests := true, laidLooks := .later }
def PlainWayCardSaid : Prop := Claim7.holds Tryd.pinned (.plain (OpenSpec.ofChange plainWaySpec)) plainWayCard

/-- THE TIED CARD OF 'culvertlaw28.PlainKnown'. -/
def plainKnownCard : Claim7 := { stood := { row := plainKnownRow, standIns := [], harness := (true, "ed157a174d5a4116306541f1eb9174fc30b7e470933424e5c07790c2371b5123"), looks := false }, kinds := [], alts := [], laidByText := true, laidKinds := [.widerDeep], laidTests := true, laidLooks := .later }
def PlainKnownCardSaid : Prop := Claim7.holds Tryd.pinned (.plain (OpenSpec.ofChange plainKnownSpec)) plainKnownCard

/-- THE SECOND FORM's CARD OF 'culvertlaw28.PlainCloses'. -/
def plainClosesUptoCard : Claim7 := { stood := { row := plainClosesUptoRow, standIns := [], harness := (true, "ed157a174d5a4116306541f1eb9174fc30b7e470933424e5c07790c2371b5123"), looks := false }, kinds := [], alts := [], laidByText := true, laidKinds := [.widerDeep], laidTests := true, laidLooks := .later }
def PlainClosesUptoCardSaid : Prop := Claim7.holds Tryd.pinned (.plain (OpenSpec.upto plainClosesSpec)) plainClosesUptoCard

/-- THE SECOND FORM's CARD OF 'culvertlaw28.PlainWay'. -/
def plainWayUptoCard : Claim7 := { stood := { row := plainWayUptoRow, standIns := [], harness := (true, "ed157a174d5a4116306541f1eb9174fc30b7e470933424e5c07790c2371b5123"), looks := false }, kinds := [], alts := [], laidByText := true, laidKinds := [.widerDeep], laidTests := true, laidLooks := .later }
def PlainWayUptoCardSaid : Prop := Claim7.holds Tryd.pinned (.plain (OpenSpec.upto plainWaySpec)) plainWayUptoCard

/-- THE SECOND FORM's CARD OF 'culvertlaw28.PlainKnown'. -/
def plainKnownUptoCard : Claim7 := { stood := { row := plainKnownUptoRow, standIns := [], harness := (true, "ed157a174d5a4116306541f1eb9174fc30b7e470933424e5c07790c2371b5123"), looks := false }, kinds := [], alts := [], laidByText := true, laidKinds := [.widerDeep], laidTests := true, laidLooks := .later }
def PlainKnownUptoCardSaid : Prop := Claim7.holds Tryd.pinned (.plain (OpenSpec.upto plainKnownSpec)) plainKnownUptoCard
end Rows
end Go.Proofs.YtgknjokjpaodlaaDoor
