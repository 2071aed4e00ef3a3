/-
  DERIVED. GIVEN WITH THE SEED: THE CARDS: each row of YtkfpjhjmedodlaaGreatDoorRows.lean that lists a variable, with what it lists TIED to the program's text (the seventh form; the later family's looks); each row that meets fmt, with fmt's text TOLD by the authors' own Lean function (tested against real Go, not proved from fmt's source: count such statements apart). THE CARD IS WHAT COUNTS. Prove the row's statement (the work); the ties are given (YtkfpjhjmedodlaaGreatDoorTie.lean); close each card by the builder's one call (the guide's Derived/Test/ToyasCard.lean, 'card_holds'). Laid BY PROGRAM, IN A SANDBOX (cutbox-door.mjs). By AI agents, Wed Nov 11 2026. No macro, syntax, notation, axiom, sorry.
-/
import Derived.Test.YtkfpjhjmedodlaaGreatDoorRows
import GoSem.ClaimSeven
namespace Go.Proofs.YtkfpjhjmedodlaaGreatDoor
namespace Rows

/-- THE TIED CARD OF 'reckonerlaw24.ParseRationals'. -/
def parseRationalsCard : Claim7 := { stood := { row := parseRationalsRow, standIns := [], harness := (true, "a42dbcf8427cd6122b7414fc10ddeb2c97172185b7480abc9c1555fd30f3b0ca"), looks := false }, kinds := [], alts := [], laidByText := true, laidKinds := [.data, .data, .data, .data, .data, .funcs, .pinned, .pinned], laidTests := true, laidLooks := .later }
def ParseRationalsCardSaid : Prop := Claim7.holds Tryz.pinned (.plain (OpenSpec.ofChange parseRationalsSpec)) parseRationalsCard

/-- THE TIED CARD OF 'reckonerlaw24.ParseJoins'. -/
def parseJoinsCard : Claim7 := { stood := { row := parseJoinsRow, standIns := [], harness := (true, "a42dbcf8427cd6122b7414fc10ddeb2c97172185b7480abc9c1555fd30f3b0ca"), looks := false }, kinds := [], alts := [], laidByText := true, laidKinds := [.data, .data, .data, .data, .data, .funcs, .pinned, .pinned], laidTests := true, laidLooks := .later }
def ParseJoinsCardSaid : Prop := Claim7.holds Tryz.pinned (.plain (OpenSpec.ofChange parseJoinsSpec)) parseJoinsCard

/-- THE TIED CARD OF 'reckonerlaw24.ParseLong'. -/
def parseLongCard : Claim7 := { stood := { row := parseLongRow, standIns := [], harness := (true, "a42dbcf8427cd6122b7414fc10ddeb2c97172185b7480abc9c1555fd30f3b0ca"), looks := false }, kinds := [], alts := [], laidByText := true, laidKinds := [.data, .data, .data, .data, .data, .funcs, .pinned, .pinned], laidTests := true, laidLooks := .later }
def ParseLongCardSaid : Prop := Claim7.holds Tryz.pinned (.plain (OpenSpec.ofChange parseLongSpec)) parseLongCard

/-- THE TIED CARD OF 'reckonerlaw24.ParseZeros'. -/
def parseZerosCard : Claim7 := { stood := { row := parseZerosRow, standIns := [], harness := (true, "a42dbcf8427cd6122b7414fc10ddeb2c97172185b7480abc9c1555fd30f3b0ca"), looks := false }, kinds := [], alts := [], laidByText := true, laidKinds := [.data, .data, .data, .data, .data, .funcs, .pinned, .pinned], laidTests := true, laidLooks := .later }
def ParseZerosCardSaid : Prop := Claim7.holds Tryz.pinned (.plain (OpenSpec.ofChange parseZerosSpec)) parseZerosCard

/-- THE SECOND FORM's CARD OF 'reckonerlaw24.ParseRationals'. -/
def parseRationalsUptoCard : Claim7 := { stood := { row := parseRationalsUptoRow, standIns := [], harness := (true, "a42dbcf8427cd6122b7414fc10ddeb2c97172185b7480abc9c1555fd30f3b0ca"), looks := false }, kinds := [], alts := [], laidByText := true, laidKinds := [.data, .data, .data, .data, .data, .funcs, .pinned, .pinned], laidTests := true, laidLooks := .later }
def ParseRationalsUptoCardSaid : Prop := Claim7.holds Tryz.pinned (.plain (OpenSpec.upto parseRationalsSpec)) parseRationalsUptoCard

/-- THE SECOND FORM's CARD OF 'reckonerlaw24.ParseJoins'. -/
def parseJoinsUptoCard : Claim7 := { stood := { row := parseJoinsUptoRow, standIns := [], harness := (true, "a42dbcf8427cd6122b7414fc10ddeb2c97172185b7480abc9c1555fd30f3b0ca"), looks := false }, kinds := [], alts := [], laidByText := true, laidKinds := [.data, .data, .data, .data, .data, .funcs, .pinned, .pinned], laidTests := true, laidLooks := .later }
def ParseJoinsUptoCardSaid : Prop := Claim7.holds Tryz.pinned (.plain (OpenSpec.upto parseJoinsSpec)) parseJoinsUptoCard

/-- THE SECOND FORM's CARD OF 'reckonerlaw24.ParseLong'. -/
def parseLongUptoCard : Claim7 := { stood := { row := parseLongUptoRow, standIns := [], harness := (true, "a42dbcf8427cd6122b7414fc10ddeb2c97172185b7480abc9c1555fd30f3b0ca"), looks := false }, kinds := [], alts := [], laidByText := true, laidKinds := [.data, .data, .data, .data, .data, .funcs, .pinned, .pinned], laidTests := true, laidLooks := .later }
def ParseLongUptoCardSaid : Prop := Claim7.holds Tryz.pinned (.plain (OpenSpec.upto parseLongSpec)) parseLongUptoCard

/-- THE SECOND FORM's CARD OF 'reckonerlaw24.ParseZeros'. -/
def parseZerosUptoCard : Claim7 := { stood := { row := parseZerosUptoRow, standIns := [], harness := (true, "a42dbcf8427cd6122b7414fc10ddeb2c97172185b7480abc9c1555fd30f3b0ca"), looks := false }, kinds := [], alts := [], laidByText := true, laidKinds := [.data, .data, .data, .data, .data, .funcs, .pinned, .pinned], laidTests := true, laidLooks := .later }
def ParseZerosUptoCardSaid : Prop := Claim7.holds Tryz.pinned (.plain (OpenSpec.upto parseZerosSpec)) parseZerosUptoCard
end Rows
end Go.Proofs.YtkfpjhjmedodlaaGreatDoor
