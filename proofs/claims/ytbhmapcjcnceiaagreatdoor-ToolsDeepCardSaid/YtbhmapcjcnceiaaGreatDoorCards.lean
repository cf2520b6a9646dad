/-
  DERIVED. GIVEN WITH THE SEED: THE CARDS: each row of YtbhmapcjcnceiaaGreatDoorRows.lean that lists a variable, with what it lists TIED to the program's text (the seventh form; the later family's looks); each row that meets fmt, with fmt's text TOLD by the authors' own Lean function (tested against real Go, not proved from fmt's source: count such statements apart). THE CARD IS WHAT COUNTS. Prove the row's statement (the work); the ties are given (YtbhmapcjcnceiaaGreatDoorTie.lean); close each card by the builder's one call (the guide's Derived/Test/ToyasCard.lean, 'card_holds'). Laid BY PROGRAM, IN A SANDBOX (cutbox-door.mjs). By AI agents, Wed Nov 11 2026. No macro, syntax, notation, axiom, sorry.
-/
import Derived.Test.YtbhmapcjcnceiaaGreatDoorRows
import GoSem.ClaimSeven
namespace Go.Proofs.YtbhmapcjcnceiaaGreatDoor
namespace Rows

/-- THE TIED CARD OF 'quartermasterlaw15.ToolsPrint'. -/
def toolsPrintCard : Claim7 := { stood := { row := toolsPrintRow, standIns := [], harness := (true, "adc0e6f76728aebc96096efd455268afdfa76399e81207d2724359013201e46b"), looks := true }, kinds := [], alts := [], laidByText := true, laidKinds := [.data, .data, .data, .data, .sentinel, .sentinel, .pinned], laidTests := true, laidLooks := .later }
def ToolsPrintCardSaid : Prop := Claim7.holds Tryz.pinned (.plain (OpenSpec.ofChange toolsPrintSpec)) toolsPrintCard

/-- THE TIED CARD OF 'quartermasterlaw15.ToolsCat'. -/
def toolsCatCard : Claim7 := { stood := { row := toolsCatRow, standIns := [], harness := (true, "adc0e6f76728aebc96096efd455268afdfa76399e81207d2724359013201e46b"), looks := true }, kinds := [], alts := [], laidByText := true, laidKinds := [.data, .data, .data, .data, .sentinel, .sentinel, .pinned], laidTests := true, laidLooks := .later }
def ToolsCatCardSaid : Prop := Claim7.holds Tryz.pinned (.plain (OpenSpec.ofChange toolsCatSpec)) toolsCatCard

/-- THE TIED CARD OF 'quartermasterlaw15.ToolsTest'. -/
def toolsTestCard : Claim7 := { stood := { row := toolsTestRow, standIns := [], harness := (true, "adc0e6f76728aebc96096efd455268afdfa76399e81207d2724359013201e46b"), looks := true }, kinds := [], alts := [], laidByText := true, laidKinds := [.data, .data, .data, .data, .sentinel, .sentinel, .pinned], laidTests := true, laidLooks := .later }
def ToolsTestCardSaid : Prop := Claim7.holds Tryz.pinned (.plain (OpenSpec.ofChange toolsTestSpec)) toolsTestCard

/-- THE TIED CARD OF 'quartermasterlaw15.ToolsDeep'. -/
def toolsDeepCard : Claim7 := { stood := { row := toolsDeepRow, standIns := [], harness := (true, "adc0e6f76728aebc96096efd455268afdfa76399e81207d2724359013201e46b"), looks := true }, kinds := [], alts := [], laidByText := true, laidKinds := [.data, .data, .data, .data, .sentinel, .sentinel, .pinned], laidTests := true, laidLooks := .later }
def ToolsDeepCardSaid : Prop := Claim7.holds Tryz.pinned (.plain (OpenSpec.ofChange toolsDeepSpec)) toolsDeepCard

/-- THE TIED CARD OF 'quartermasterlaw15.ToolsRun'. -/
def toolsRunCard : Claim7 := { stood := { row := toolsRunRow, standIns := [], harness := (true, "adc0e6f76728aebc96096efd455268afdfa76399e81207d2724359013201e46b"), looks := true }, kinds := [], alts := [], laidByText := true, laidKinds := [.data, .data, .data, .data, .sentinel, .sentinel, .pinned], laidTests := true, laidLooks := .later }
def ToolsRunCardSaid : Prop := Claim7.holds Tryz.pinned (.plain (OpenSpec.ofChange toolsRunSpec)) toolsRunCard

/-- THE SECOND FORM's CARD OF 'quartermasterlaw15.ToolsPrint'. -/
def toolsPrintUptoCard : Claim7 := { stood := { row := toolsPrintUptoRow, standIns := [], harness := (true, "adc0e6f76728aebc96096efd455268afdfa76399e81207d2724359013201e46b"), looks := true }, kinds := [], alts := [], laidByText := true, laidKinds := [.data, .data, .data, .data, .sentinel, .sentinel, .pinned], laidTests := true, laidLooks := .later }
def ToolsPrintUptoCardSaid : Prop := Claim7.holds Tryz.pinned (.plain (OpenSpec.upto toolsPrintSpec)) toolsPrintUptoCard

/-- THE SECOND FORM's CARD OF 'quartermasterlaw15.ToolsCat'. -/
def toolsCatUptoCard : Claim7 := { stood := { row := toolsCatUptoRow, standIns := [], harness := (true, "adc0e6f76728aebc96096efd455268afdfa76399e81207d2724359013201e46b"), looks := true }, kinds := [], alts := [], laidByText := true, laidKinds := [.data, .data, .data, .data, .sentinel, .sentinel, .pinned], laidTests := true, laidLooks := .later }
def ToolsCatUptoCardSaid : Prop := Claim7.holds Tryz.pinned (.plain (OpenSpec.upto toolsCatSpec)) toolsCatUptoCard

/-- THE SECOND FORM's CARD OF 'quartermasterlaw15.ToolsTest'. -/
def toolsTestUptoCard : Claim7 := { stood := { row := toolsTestUptoRow, standIns := [], harness := (true, "adc0e6f76728aebc96096efd455268afdfa76399e81207d2724359013201e46b"), looks := true }, kinds := [], alts := [], laidByText := true, laidKinds := [.data, .data, .data, .data, .sentinel, .sentinel, .pinned], laidTests := true, laidLooks := .later }
def ToolsTestUptoCardSaid : Prop := Claim7.holds Tryz.pinned (.plain (OpenSpec.upto toolsTestSpec)) toolsTestUptoCard

/-- THE SECOND FORM's CARD OF 'quartermasterlaw15.ToolsDeep'. -/
def toolsDeepUptoCard : Claim7 := { stood := { row := toolsDeepUptoRow, standIns := [], harness := (true, "adc0e6f76728aebc96096efd455268afdfa76399e81207d2724359013201e46b"), looks := true }, kinds := [], alts := [], laidByText := true, laidKinds := [.data, .data, .data, .data, .sentinel, .sentinel, .pinned], laidTests := true, laidLooks := .later }
def ToolsDeepUptoCardSaid : Prop := Claim7.holds Tryz.pinned (.plain (OpenSpec.upto toolsDeepSpec)) toolsDeepUptoCard

/-- THE SECOND FORM's CARD OF 'quartermasterlaw15.ToolsRun'. -/
def toolsRunUptoCard : Claim7 := { stood := { row := toolsRunUptoRow, standIns := [], harness := (true, "adc0e6f76728aebc96096efd455268afdfa76399e81207d2724359013201e46b"), looks := true }, kinds := [], alts := [], laidByText := true, laidKinds := [.data, .data, .data, .data, .sentinel, .sentinel, .pinned], laidTests := true, laidLooks := .later }
def ToolsRunUptoCardSaid : Prop := Claim7.holds Tryz.pinned (.plain (OpenSpec.upto toolsRunSpec)) toolsRunUptoCard
end Rows
end Go.Proofs.YtbhmapcjcnceiaaGreatDoor
