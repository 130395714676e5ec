/-
  DERIVED. GIVEN WITH THE SEED: THE CARDS: each row of YtmikfnmbjpfgnaaDoorRows.lean that lists a variable, with what it lists TIED to the program's text (the seventh form; the later family's looks); each row that meets fmt, with fmt's text TOLD by the authors' own Lean function (tested against real Go, not proved from fmt's source: count such statements apart). THE CARD IS WHAT COUNTS. Prove the row's statement (the work); the ties are given (YtmikfnmbjpfgnaaDoorTie.lean); close each card by the builder's one call (the guide's Derived/Test/ToyasCard.lean, 'card_holds'). Laid BY PROGRAM, IN A SANDBOX (cutbox-door.mjs). By AI agents, Wed Nov 11 2026. No macro, syntax, notation, axiom, sorry.
-/
import Derived.Test.YtmikfnmbjpfgnaaDoorRows
import GoSem.ClaimSeven
namespace Go.Proofs.YtmikfnmbjpfgnaaDoor
namespace Rows

/-- THE TIED CARD OF 'gleanerlaw30.LotsSizes'. -/
def lotsSizesCard : Claim7 := { stood := { row := lotsSizesRow, standIns := [], harness := (true, "1e8707885e5d45568890abd2200b2d8f2291dc65ed3591ead2fe1130e111b954"), looks := false }, kinds := [], alts := [], laidByText := true, laidKinds := [.data, .data, .data], laidTests := true, laidLooks := .later }
def LotsSizesCardSaid : Prop := Claim7.holds Tryd.pinned (.plain (OpenSpec.ofChange lotsSizesSpec)) lotsSizesCard

/-- THE TIED CARD OF 'gleanerlaw30.LotsScripts'. -/
def lotsScriptsCard : Claim7 := { stood := { row := lotsScriptsRow, standIns := [], harness := (true, "1e8707885e5d45568890abd2200b2d8f2291dc65ed3591ead2fe1130e111b954"), looks := false }, kinds := [], alts := [], laidByText := true, laidKinds := [.data, .data, .data], laidTests := true, laidLooks := .later }
def LotsScriptsCardSaid : Prop := Claim7.holds Tryd.pinned (.plain (OpenSpec.ofChange lotsScriptsSpec)) lotsScriptsCard

/-- THE TIED CARD OF 'gleanerlaw30.LotsBegins'. -/
def lotsBeginsCard : Claim7 := { stood := { row := lotsBeginsRow, standIns := [], harness := (true, "1e8707885e5d45568890abd2200b2d8f2291dc65ed3591ead2fe1130e111b954"), looks := false }, kinds := [], alts := [], laidByText := true, laidKinds := [.data, .data, .data], laidTests := true, laidLooks := .later }
def LotsBeginsCardSaid : Prop := Claim7.holds Tryd.pinned (.plain (OpenSpec.ofChange lotsBeginsSpec)) lotsBeginsCard

/-- THE SECOND FORM's CARD OF 'gleanerlaw30.LotsSizes'. -/
def lotsSizesUptoCard : Claim7 := { stood := { row := lotsSizesUptoRow, standIns := [], harness := (true, "1e8707885e5d45568890abd2200b2d8f2291dc65ed3591ead2fe1130e111b954"), looks := false }, kinds := [], alts := [], laidByText := true, laidKinds := [.data, .data, .data], laidTests := true, laidLooks := .later }
def LotsSizesUptoCardSaid : Prop := Claim7.holds Tryd.pinned (.plain (OpenSpec.upto lotsSizesSpec)) lotsSizesUptoCard

/-- THE SECOND FORM's CARD OF 'gleanerlaw30.LotsScripts'. -/
def lotsScriptsUptoCard : Claim7 := { stood := { row := lotsScriptsUptoRow, standIns := [], harness := (true, "1e8707885e5d45568890abd2200b2d8f2291dc65ed3591ead2fe1130e111b954"), looks := false }, kinds := [], alts := [], laidByText := true, laidKinds := [.data, .data, .data], laidTests := true, laidLooks := .later }
def LotsScriptsUptoCardSaid : Prop := Claim7.holds Tryd.pinned (.plain (OpenSpec.upto lotsScriptsSpec)) lotsScriptsUptoCard

/-- THE SECOND FORM's CARD OF 'gleanerlaw30.LotsBegins'. -/
def lotsBeginsUptoCard : Claim7 := { stood := { row := lotsBeginsUptoRow, standIns := [], harness := (true, "1e8707885e5d45568890abd2200b2d8f2291dc65ed3591ead2fe1130e111b954"), looks := false }, kinds := [], alts := [], laidByText := true, laidKinds := [.data, .data, .data], laidTests := true, laidLooks := .later }
def LotsBeginsUptoCardSaid : Prop := Claim7.holds Tryd.pinned (.plain (OpenSpec.upto lotsBeginsSpec)) lotsBeginsUptoCard
end Rows
end Go.Proofs.YtmikfnmbjpfgnaaDoor
