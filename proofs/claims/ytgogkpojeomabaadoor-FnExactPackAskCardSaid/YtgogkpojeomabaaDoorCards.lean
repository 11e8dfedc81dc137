/-
  DERIVED. GIVEN WITH THE SEED: THE CARDS: each row of YtgogkpojeomabaaDoorRows.lean that lists a variable, with what it lists TIED to the program's text (the seventh form; the later family's looks); each row that meets fmt, with fmt's text TOLD by the authors' own Lean function (tested against real Go, not proved from fmt's source: count such statements apart). THE CARD IS WHAT COUNTS. Prove the row's statement (the work); the ties are given (YtgogkpojeomabaaDoorTie.lean); close each card by the builder's one call (the guide's Derived/Test/ToyasCard.lean, 'card_holds'). Laid BY PROGRAM, IN A SANDBOX (cutbox-door.mjs). By AI agents, Wed Nov 11 2026. No macro, syntax, notation, axiom, sorry.
-/
import Derived.Test.YtgogkpojeomabaaDoorRows
import GoSem.ClaimSeven
namespace Go.Proofs.YtgogkpojeomabaaDoor
namespace Rows

/-- THE TIED CARD OF 'laws.FnExactPackAsk'. -/
def fnExactPackAskCard : Claim7 := { stood := { row := fnExactPackAskRow, standIns := [], harness := (true, "0354beffea6d54e98f0803a1dabbd090c6db768027d8f40fa717a6a456b42063"), looks := false }, kinds := [], alts := [], laidByText := true, laidKinds := [.data, .data, .data], laidTests := true, laidLooks := .later }
def FnExactPackAskCardSaid : Prop := Claim7.holds Tryd.pinned (.plain (OpenSpec.ofChange fnExactPackAskSpec)) fnExactPackAskCard

/-- THE TIED CARD OF 'laws.FnMakeOf'. -/
def fnMakeOfCard : Claim7 := { stood := { row := fnMakeOfRow, standIns := [], harness := (true, "0354beffea6d54e98f0803a1dabbd090c6db768027d8f40fa717a6a456b42063"), looks := false }, kinds := [], alts := [], laidByText := true, laidKinds := [.data, .data, .data], laidTests := true, laidLooks := .later }
def FnMakeOfCardSaid : Prop := Claim7.holds Tryd.pinned (.plain (OpenSpec.ofChange fnMakeOfSpec)) fnMakeOfCard

/-- THE TIED CARD OF 'laws.FnCodeEnds'. -/
def fnCodeEndsCard : Claim7 := { stood := { row := fnCodeEndsRow, standIns := [], harness := (true, "0354beffea6d54e98f0803a1dabbd090c6db768027d8f40fa717a6a456b42063"), looks := false }, kinds := [], alts := [], laidByText := true, laidKinds := [.data, .data, .data], laidTests := true, laidLooks := .later }
def FnCodeEndsCardSaid : Prop := Claim7.holds Tryd.pinned (.plain (OpenSpec.ofChange fnCodeEndsSpec)) fnCodeEndsCard

/-- THE TIED CARD OF 'laws.FnCodeMost'. -/
def fnCodeMostCard : Claim7 := { stood := { row := fnCodeMostRow, standIns := [], harness := (true, "0354beffea6d54e98f0803a1dabbd090c6db768027d8f40fa717a6a456b42063"), looks := false }, kinds := [], alts := [], laidByText := true, laidKinds := [.data, .data, .data], laidTests := true, laidLooks := .later }
def FnCodeMostCardSaid : Prop := Claim7.holds Tryd.pinned (.plain (OpenSpec.ofChange fnCodeMostSpec)) fnCodeMostCard

/-- THE TIED CARD OF 'laws.FnCodeLive'. -/
def fnCodeLiveCard : Claim7 := { stood := { row := fnCodeLiveRow, standIns := [], harness := (true, "0354beffea6d54e98f0803a1dabbd090c6db768027d8f40fa717a6a456b42063"), looks := false }, kinds := [], alts := [], laidByText := true, laidKinds := [.data, .data, .data], laidTests := true, laidLooks := .later }
def FnCodeLiveCardSaid : Prop := Claim7.holds Tryd.pinned (.plain (OpenSpec.ofChange fnCodeLiveSpec)) fnCodeLiveCard

/-- THE SECOND FORM's CARD OF 'laws.FnExactPackAsk'. -/
def fnExactPackAskUptoCard : Claim7 := { stood := { row := fnExactPackAskUptoRow, standIns := [], harness := (true, "0354beffea6d54e98f0803a1dabbd090c6db768027d8f40fa717a6a456b42063"), looks := false }, kinds := [], alts := [], laidByText := true, laidKinds := [.data, .data, .data], laidTests := true, laidLooks := .later }
def FnExactPackAskUptoCardSaid : Prop := Claim7.holds Tryd.pinned (.plain (OpenSpec.upto fnExactPackAskSpec)) fnExactPackAskUptoCard

/-- THE SECOND FORM's CARD OF 'laws.FnMakeOf'. -/
def fnMakeOfUptoCard : Claim7 := { stood := { row := fnMakeOfUptoRow, standIns := [], harness := (true, "0354beffea6d54e98f0803a1dabbd090c6db768027d8f40fa717a6a456b42063"), looks := false }, kinds := [], alts := [], laidByText := true, laidKinds := [.data, .data, .data], laidTests := true, laidLooks := .later }
def FnMakeOfUptoCardSaid : Prop := Claim7.holds Tryd.pinned (.plain (OpenSpec.upto fnMakeOfSpec)) fnMakeOfUptoCard

/-- THE SECOND FORM's CARD OF 'laws.FnCodeEnds'. -/
def fnCodeEndsUptoCard : Claim7 := { stood := { row := fnCodeEndsUptoRow, standIns := [], harness := (true, "0354beffea6d54e98f0803a1dabbd090c6db768027d8f40fa717a6a456b42063"), looks := false }, kinds := [], alts := [], laidByText := true, laidKinds := [.data, .data, .data], laidTests := true, laidLooks := .later }
def FnCodeEndsUptoCardSaid : Prop := Claim7.holds Tryd.pinned (.plain (OpenSpec.upto fnCodeEndsSpec)) fnCodeEndsUptoCard

/-- THE SECOND FORM's CARD OF 'laws.FnCodeMost'. -/
def fnCodeMostUptoCard : Claim7 := { stood := { row := fnCodeMostUptoRow, standIns := [], harness := (true, "0354beffea6d54e98f0803a1dabbd090c6db768027d8f40fa717a6a456b42063"), looks := false }, kinds := [], alts := [], laidByText := true, laidKinds := [.data, .data, .data], laidTests := true, laidLooks := .later }
def FnCodeMostUptoCardSaid : Prop := Claim7.holds Tryd.pinned (.plain (OpenSpec.upto fnCodeMostSpec)) fnCodeMostUptoCard

/-- THE SECOND FORM's CARD OF 'laws.FnCodeLive'. -/
def fnCodeLiveUptoCard : Claim7 := { stood := { row := fnCodeLiveUptoRow, standIns := [], harness := (true, "0354beffea6d54e98f0803a1dabbd090c6db768027d8f40fa717a6a456b42063"), looks := false }, kinds := [], alts := [], laidByText := true, laidKinds := [.data, .data, .data], laidTests := true, laidLooks := .later }
def FnCodeLiveUptoCardSaid : Prop := Claim7.holds Tryd.pinned (.plain (OpenSpec.upto fnCodeLiveSpec)) fnCodeLiveUptoCard
end Rows
end Go.Proofs.YtgogkpojeomabaaDoor
