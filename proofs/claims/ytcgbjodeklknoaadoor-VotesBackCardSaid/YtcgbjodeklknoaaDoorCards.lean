/-
  DERIVED. GIVEN WITH THE SEED: THE CARDS: each row of YtcgbjodeklknoaaDoorRows.lean that lists a variable, with what it lists TIED to the program's text (the seventh form; the later family's looks); each row that meets fmt, with fmt's text TOLD by the authors' own Lean function (tested against real Go, not proved from fmt's source: count such statements apart). THE CARD IS WHAT COUNTS. Prove the row's statement (the work); the ties are given (YtcgbjodeklknoaaDoorTie.lean); close each card by the builder's one call (the guide's Derived/Test/ToyasCard.lean, 'card_holds'). Laid BY PROGRAM, IN A SANDBOX (cutbox-door.mjs). By AI agents, Wed Nov 11 2026. No macro, syntax, notation, axiom, sorry.
-/
import Derived.Test.YtcgbjodeklknoaaDoorRows
import GoSem.ClaimSeven
namespace Go.Proofs.YtcgbjodeklknoaaDoor
namespace Rows

/-- THE TIED CARD OF 'parrellaw06.VotesMakes'. -/
def votesMakesCard : Claim7 := { stood := { row := votesMakesRow, standIns := [], harness := (true, "1f76733804a3f6c7086f221a4f2ad0952faf3b3698988719894056b4da762c09"), looks := false }, kinds := [], alts := [], laidByText := true, laidKinds := [.data], laidTests := true, laidLooks := .later }
def VotesMakesCardSaid : Prop := Claim7.holds Tryd.pinned (.plain (OpenSpec.ofChange votesMakesSpec)) votesMakesCard

/-- THE TIED CARD OF 'parrellaw06.VotesCounts'. -/
def votesCountsCard : Claim7 := { stood := { row := votesCountsRow, standIns := [], harness := (true, "1f76733804a3f6c7086f221a4f2ad0952faf3b3698988719894056b4da762c09"), looks := false }, kinds := [], alts := [], laidByText := true, laidKinds := [.data], laidTests := true, laidLooks := .later }
def VotesCountsCardSaid : Prop := Claim7.holds Tryd.pinned (.plain (OpenSpec.ofChange votesCountsSpec)) votesCountsCard

/-- THE TIED CARD OF 'parrellaw06.VotesMeet'. -/
def votesMeetCard : Claim7 := { stood := { row := votesMeetRow, standIns := [], harness := (true, "1f76733804a3f6c7086f221a4f2ad0952faf3b3698988719894056b4da762c09"), looks := false }, kinds := [], alts := [], laidByText := true, laidKinds := [.data], laidTests := true, laidLooks := .later }
def VotesMeetCardSaid : Prop := Claim7.holds Tryd.pinned (.plain (OpenSpec.ofChange votesMeetSpec)) votesMeetCard

/-- THE TIED CARD OF 'parrellaw06.VotesAll'. -/
def votesAllCard : Claim7 := { stood := { row := votesAllRow, standIns := [], harness := (true, "1f76733804a3f6c7086f221a4f2ad0952faf3b3698988719894056b4da762c09"), looks := false }, kinds := [], alts := [], laidByText := true, laidKinds := [.data], laidTests := true, laidLooks := .later }
def VotesAllCardSaid : Prop := Claim7.holds Tryd.pinned (.plain (OpenSpec.ofChange votesAllSpec)) votesAllCard

/-- THE TIED CARD OF 'parrellaw06.VotesAfter'. -/
def votesAfterCard : Claim7 := { stood := { row := votesAfterRow, standIns := [], harness := (true, "1f76733804a3f6c7086f221a4f2ad0952faf3b3698988719894056b4da762c09"), looks := false }, kinds := [], alts := [], laidByText := true, laidKinds := [.data], laidTests := true, laidLooks := .later }
def VotesAfterCardSaid : Prop := Claim7.holds Tryd.pinned (.plain (OpenSpec.ofChange votesAfterSpec)) votesAfterCard

/-- THE TIED CARD OF 'parrellaw06.VotesQuorums'. -/
def votesQuorumsCard : Claim7 := { stood := { row := votesQuorumsRow, standIns := [], harness := (true, "1f76733804a3f6c7086f221a4f2ad0952faf3b3698988719894056b4da762c09"), looks := false }, kinds := [], alts := [], laidByText := true, laidKinds := [.data], laidTests := true, laidLooks := .later }
def VotesQuorumsCardSaid : Prop := Claim7.holds Tryd.pinned (.plain (OpenSpec.ofChange votesQuorumsSpec)) votesQuorumsCard

/-- THE TIED CARD OF 'parrellaw06.VotesParts'. -/
def votesPartsCard : Claim7 := { stood := { row := votesPartsRow, standIns := [], harness := (true, "1f76733804a3f6c7086f221a4f2ad0952faf3b3698988719894056b4da762c09"), looks := false }, kinds := [], alts := [], laidByText := true, laidKinds := [.data], laidTests := true, laidLooks := .later }
def VotesPartsCardSaid : Prop := Claim7.holds Tryd.pinned (.plain (OpenSpec.ofChange votesPartsSpec)) votesPartsCard

/-- THE TIED CARD OF 'parrellaw06.VotesBack'. -/
def votesBackCard : Claim7 := { stood := { row := votesBackRow, standIns := [], harness := (true, "1f76733804a3f6c7086f221a4f2ad0952faf3b3698988719894056b4da762c09"), looks := false }, kinds := [], alts := [], laidByText := true, laidKinds := [.data], laidTests := true, laidLooks := .later }
def VotesBackCardSaid : Prop := Claim7.holds Tryd.pinned (.plain (OpenSpec.ofChange votesBackSpec)) votesBackCard

/-- THE SECOND FORM's CARD OF 'parrellaw06.VotesMakes'. -/
def votesMakesUptoCard : Claim7 := { stood := { row := votesMakesUptoRow, standIns := [], harness := (true, "1f76733804a3f6c7086f221a4f2ad0952faf3b3698988719894056b4da762c09"), looks := false }, kinds := [], alts := [], laidByText := true, laidKinds := [.data], laidTests := true, laidLooks := .later }
def VotesMakesUptoCardSaid : Prop := Claim7.holds Tryd.pinned (.plain (OpenSpec.upto votesMakesSpec)) votesMakesUptoCard

/-- THE SECOND FORM's CARD OF 'parrellaw06.VotesCounts'. -/
def votesCountsUptoCard : Claim7 := { stood := { row := votesCountsUptoRow, standIns := [], harness := (true, "1f76733804a3f6c7086f221a4f2ad0952faf3b3698988719894056b4da762c09"), looks := false }, kinds := [], alts := [], laidByText := true, laidKinds := [.data], laidTests := true, laidLooks := .later }
def VotesCountsUptoCardSaid : Prop := Claim7.holds Tryd.pinned (.plain (OpenSpec.upto votesCountsSpec)) votesCountsUptoCard

/-- THE SECOND FORM's CARD OF 'parrellaw06.VotesMeet'. -/
def votesMeetUptoCard : Claim7 := { stood := { row := votesMeetUptoRow, standIns := [], harness := (true, "1f76733804a3f6c7086f221a4f2ad0952faf3b3698988719894056b4da762c09"), looks := false }, kinds := [], alts := [], laidByText := true, laidKinds := [.data], laidTests := true, laidLooks := .later }
def VotesMeetUptoCardSaid : Prop := Claim7.holds Tryd.pinned (.plain (OpenSpec.upto votesMeetSpec)) votesMeetUptoCard

/-- THE SECOND FORM's CARD OF 'parrellaw06.VotesAll'. -/
def votesAllUptoCard : Claim7 := { stood := { row := votesAllUptoRow, standIns := [], harness := (true, "1f76733804a3f6c7086f221a4f2ad0952faf3b3698988719894056b4da762c09"), looks := false }, kinds := [], alts := [], laidByText := true, laidKinds := [.data], laidTests := true, laidLooks := .later }
def VotesAllUptoCardSaid : Prop := Claim7.holds Tryd.pinned (.plain (OpenSpec.upto votesAllSpec)) votesAllUptoCard

/-- THE SECOND FORM's CARD OF 'parrellaw06.VotesAfter'. -/
def votesAfterUptoCard : Claim7 := { stood := { row := votesAfterUptoRow, standIns := [], harness := (true, "1f76733804a3f6c7086f221a4f2ad0952faf3b3698988719894056b4da762c09"), looks := false }, kinds := [], alts := [], laidByText := true, laidKinds := [.data], laidTests := true, laidLooks := .later }
def VotesAfterUptoCardSaid : Prop := Claim7.holds Tryd.pinned (.plain (OpenSpec.upto votesAfterSpec)) votesAfterUptoCard

/-- THE SECOND FORM's CARD OF 'parrellaw06.VotesQuorums'. -/
def votesQuorumsUptoCard : Claim7 := { stood := { row := votesQuorumsUptoRow, standIns := [], harness := (true, "1f76733804a3f6c7086f221a4f2ad0952faf3b3698988719894056b4da762c09"), looks := false }, kinds := [], alts := [], laidByText := true, laidKinds := [.data], laidTests := true, laidLooks := .later }
def VotesQuorumsUptoCardSaid : Prop := Claim7.holds Tryd.pinned (.plain (OpenSpec.upto votesQuorumsSpec)) votesQuorumsUptoCard

/-- THE SECOND FORM's CARD OF 'parrellaw06.VotesParts'. -/
def votesPartsUptoCard : Claim7 := { stood := { row := votesPartsUptoRow, standIns := [], harness := (true, "1f76733804a3f6c7086f221a4f2ad0952faf3b3698988719894056b4da762c09"), looks := false }, kinds := [], alts := [], laidByText := true, laidKinds := [.data], laidTests := true, laidLooks := .later }
def VotesPartsUptoCardSaid : Prop := Claim7.holds Tryd.pinned (.plain (OpenSpec.upto votesPartsSpec)) votesPartsUptoCard

/-- THE SECOND FORM's CARD OF 'parrellaw06.VotesBack'. -/
def votesBackUptoCard : Claim7 := { stood := { row := votesBackUptoRow, standIns := [], harness := (true, "1f76733804a3f6c7086f221a4f2ad0952faf3b3698988719894056b4da762c09"), looks := false }, kinds := [], alts := [], laidByText := true, laidKinds := [.data], laidTests := true, laidLooks := .later }
def VotesBackUptoCardSaid : Prop := Claim7.holds Tryd.pinned (.plain (OpenSpec.upto votesBackSpec)) votesBackUptoCard
end Rows
end Go.Proofs.YtcgbjodeklknoaaDoor
