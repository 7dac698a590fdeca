/-
  DERIVED. GIVEN WITH THE SEED: THE CARDS: each row of YtfpcdlpfmlaakaaDoorRows.lean that lists a variable, with what it lists TIED to the program's text (the seventh form; the later family's looks); each row that meets fmt, with fmt's text TOLD by the authors' own Lean function (tested against real Go, not proved from fmt's source: count such statements apart). THE CARD IS WHAT COUNTS. Prove the row's statement (the work); the ties are given (YtfpcdlpfmlaakaaDoorTie.lean); close each card by the builder's one call (the guide's Derived/Test/ToyasCard.lean, 'card_holds'). Laid BY PROGRAM, IN A SANDBOX (cutbox-door.mjs). By AI agents, Wed Nov 11 2026. No macro, syntax, notation, axiom, sorry.
-/
import Derived.Test.YtfpcdlpfmlaakaaDoorRows
import GoSem.ClaimSeven
namespace Go.Proofs.YtfpcdlpfmlaakaaDoor
namespace Rows

/-- THE TIED CARD OF 'onairlaw25.AsrunExtends'. -/
def asrunExtendsCard : Claim7 := { stood := { row := asrunExtendsRow, standIns := [], harness := (true, "fadc229530edf08af4024de5c97f5e2678367e79521e1655cc3157ad303d6c68"), looks := false }, kinds := [], alts := [], laidByText := true, laidKinds := [.data], laidTests := true, laidLooks := .later }
def AsrunExtendsCardSaid : Prop := Claim7.holds Tryd.pinned (.plain (OpenSpec.ofChange asrunExtendsSpec)) asrunExtendsCard

/-- THE TIED CARD OF 'onairlaw25.AsrunExtendMatchesReference'. -/
def asrunExtendMatchesReferenceCard : Claim7 := { stood := { row := asrunExtendMatchesReferenceRow, standIns := [], harness := (true, "fadc229530edf08af4024de5c97f5e2678367e79521e1655cc3157ad303d6c68"), looks := false }, kinds := [], alts := [], laidByText := true, laidKinds := [.data], laidTests := true, laidLooks := .later }
def AsrunExtendMatchesReferenceCardSaid : Prop := Claim7.holds Tryd.pinned (.plain (OpenSpec.ofChange asrunExtendMatchesReferenceSpec)) asrunExtendMatchesReferenceCard

/-- THE TIED CARD OF 'onairlaw25.AsrunProves'. -/
def asrunProvesCard : Claim7 := { stood := { row := asrunProvesRow, standIns := [], harness := (true, "fadc229530edf08af4024de5c97f5e2678367e79521e1655cc3157ad303d6c68"), looks := false }, kinds := [], alts := [], laidByText := true, laidKinds := [.data], laidTests := true, laidLooks := .later }
def AsrunProvesCardSaid : Prop := Claim7.holds Tryd.pinned (.plain (OpenSpec.ofChange asrunProvesSpec)) asrunProvesCard

/-- THE TIED CARD OF 'onairlaw25.AsrunBinding'. -/
def asrunBindingCard : Claim7 := { stood := { row := asrunBindingRow, standIns := [], harness := (true, "fadc229530edf08af4024de5c97f5e2678367e79521e1655cc3157ad303d6c68"), looks := false }, kinds := [], alts := [], laidByText := true, laidKinds := [.data], laidTests := true, laidLooks := .later }
def AsrunBindingCardSaid : Prop := Claim7.holds Tryd.pinned (.plain (OpenSpec.ofChange asrunBindingSpec)) asrunBindingCard

/-- THE TIED CARD OF 'onairlaw25.AsrunVerifyMatchesReference'. -/
def asrunVerifyMatchesReferenceCard : Claim7 := { stood := { row := asrunVerifyMatchesReferenceRow, standIns := [], harness := (true, "fadc229530edf08af4024de5c97f5e2678367e79521e1655cc3157ad303d6c68"), looks := false }, kinds := [], alts := [], laidByText := true, laidKinds := [.data], laidTests := true, laidLooks := .later }
def AsrunVerifyMatchesReferenceCardSaid : Prop := Claim7.holds Tryd.pinned (.plain (OpenSpec.ofChange asrunVerifyMatchesReferenceSpec)) asrunVerifyMatchesReferenceCard

/-- THE TIED CARD OF 'onairlaw25.AsrunReopens'. -/
def asrunReopensCard : Claim7 := { stood := { row := asrunReopensRow, standIns := [], harness := (true, "fadc229530edf08af4024de5c97f5e2678367e79521e1655cc3157ad303d6c68"), looks := false }, kinds := [], alts := [], laidByText := true, laidKinds := [.data], laidTests := true, laidLooks := .later }
def AsrunReopensCardSaid : Prop := Claim7.holds Tryd.pinned (.plain (OpenSpec.ofChange asrunReopensSpec)) asrunReopensCard

/-- THE TIED CARD OF 'onairlaw25.AsrunSurvives'. -/
def asrunSurvivesCard : Claim7 := { stood := { row := asrunSurvivesRow, standIns := [], harness := (true, "fadc229530edf08af4024de5c97f5e2678367e79521e1655cc3157ad303d6c68"), looks := false }, kinds := [], alts := [], laidByText := true, laidKinds := [.data], laidTests := true, laidLooks := .later }
def AsrunSurvivesCardSaid : Prop := Claim7.holds Tryd.pinned (.plain (OpenSpec.ofChange asrunSurvivesSpec)) asrunSurvivesCard

/-- THE TIED CARD OF 'onairlaw25.AsrunGrows'. -/
def asrunGrowsCard : Claim7 := { stood := { row := asrunGrowsRow, standIns := [], harness := (true, "fadc229530edf08af4024de5c97f5e2678367e79521e1655cc3157ad303d6c68"), looks := false }, kinds := [], alts := [], laidByText := true, laidKinds := [.data], laidTests := true, laidLooks := .later }
def AsrunGrowsCardSaid : Prop := Claim7.holds Tryd.pinned (.plain (OpenSpec.ofChange asrunGrowsSpec)) asrunGrowsCard

/-- THE SECOND FORM's CARD OF 'onairlaw25.AsrunExtends'. -/
def asrunExtendsUptoCard : Claim7 := { stood := { row := asrunExtendsUptoRow, standIns := [], harness := (true, "fadc229530edf08af4024de5c97f5e2678367e79521e1655cc3157ad303d6c68"), looks := false }, kinds := [], alts := [], laidByText := true, laidKinds := [.data], laidTests := true, laidLooks := .later }
def AsrunExtendsUptoCardSaid : Prop := Claim7.holds Tryd.pinned (.plain (OpenSpec.upto asrunExtendsSpec)) asrunExtendsUptoCard

/-- THE SECOND FORM's CARD OF 'onairlaw25.AsrunExtendMatchesReference'. -/
def asrunExtendMatchesReferenceUptoCard : Claim7 := { stood := { row := asrunExtendMatchesReferenceUptoRow, standIns := [], harness := (true, "fadc229530edf08af4024de5c97f5e2678367e79521e1655cc3157ad303d6c68"), looks := false }, kinds := [], alts := [], laidByText := true, laidKinds := [.data], laidTests := true, laidLooks := .later }
def AsrunExtendMatchesReferenceUptoCardSaid : Prop := Claim7.holds Tryd.pinned (.plain (OpenSpec.upto asrunExtendMatchesReferenceSpec)) asrunExtendMatchesReferenceUptoCard

/-- THE SECOND FORM's CARD OF 'onairlaw25.AsrunProves'. -/
def asrunProvesUptoCard : Claim7 := { stood := { row := asrunProvesUptoRow, standIns := [], harness := (true, "fadc229530edf08af4024de5c97f5e2678367e79521e1655cc3157ad303d6c68"), looks := false }, kinds := [], alts := [], laidByText := true, laidKinds := [.data], laidTests := true, laidLooks := .later }
def AsrunProvesUptoCardSaid : Prop := Claim7.holds Tryd.pinned (.plain (OpenSpec.upto asrunProvesSpec)) asrunProvesUptoCard

/-- THE SECOND FORM's CARD OF 'onairlaw25.AsrunBinding'. -/
def asrunBindingUptoCard : Claim7 := { stood := { row := asrunBindingUptoRow, standIns := [], harness := (true, "fadc229530edf08af4024de5c97f5e2678367e79521e1655cc3157ad303d6c68"), looks := false }, kinds := [], alts := [], laidByText := true, laidKinds := [.data], laidTests := true, laidLooks := .later }
def AsrunBindingUptoCardSaid : Prop := Claim7.holds Tryd.pinned (.plain (OpenSpec.upto asrunBindingSpec)) asrunBindingUptoCard

/-- THE SECOND FORM's CARD OF 'onairlaw25.AsrunVerifyMatchesReference'. -/
def asrunVerifyMatchesReferenceUptoCard : Claim7 := { stood := { row := asrunVerifyMatchesReferenceUptoRow, standIns := [], harness := (true, "fadc229530edf08af4024de5c97f5e2678367e79521e1655cc3157ad303d6c68"), looks := false }, kinds := [], alts := [], laidByText := true, laidKinds := [.data], laidTests := true, laidLooks := .later }
def AsrunVerifyMatchesReferenceUptoCardSaid : Prop := Claim7.holds Tryd.pinned (.plain (OpenSpec.upto asrunVerifyMatchesReferenceSpec)) asrunVerifyMatchesReferenceUptoCard

/-- THE SECOND FORM's CARD OF 'onairlaw25.AsrunReopens'. -/
def asrunReopensUptoCard : Claim7 := { stood := { row := asrunReopensUptoRow, standIns := [], harness := (true, "fadc229530edf08af4024de5c97f5e2678367e79521e1655cc3157ad303d6c68"), looks := false }, kinds := [], alts := [], laidByText := true, laidKinds := [.data], laidTests := true, laidLooks := .later }
def AsrunReopensUptoCardSaid : Prop := Claim7.holds Tryd.pinned (.plain (OpenSpec.upto asrunReopensSpec)) asrunReopensUptoCard

/-- THE SECOND FORM's CARD OF 'onairlaw25.AsrunSurvives'. -/
def asrunSurvivesUptoCard : Claim7 := { stood := { row := asrunSurvivesUptoRow, standIns := [], harness := (true, "fadc229530edf08af4024de5c97f5e2678367e79521e1655cc3157ad303d6c68"), looks := false }, kinds := [], alts := [], laidByText := true, laidKinds := [.data], laidTests := true, laidLooks := .later }
def AsrunSurvivesUptoCardSaid : Prop := Claim7.holds Tryd.pinned (.plain (OpenSpec.upto asrunSurvivesSpec)) asrunSurvivesUptoCard

/-- THE SECOND FORM's CARD OF 'onairlaw25.AsrunGrows'. -/
def asrunGrowsUptoCard : Claim7 := { stood := { row := asrunGrowsUptoRow, standIns := [], harness := (true, "fadc229530edf08af4024de5c97f5e2678367e79521e1655cc3157ad303d6c68"), looks := false }, kinds := [], alts := [], laidByText := true, laidKinds := [.data], laidTests := true, laidLooks := .later }
def AsrunGrowsUptoCardSaid : Prop := Claim7.holds Tryd.pinned (.plain (OpenSpec.upto asrunGrowsSpec)) asrunGrowsUptoCard
end Rows
end Go.Proofs.YtfpcdlpfmlaakaaDoor
