/-
  NARROWER THAN 'FOR EVERY INPUT', by the rows' own cells (each row's printed sentence says how): VotesMakes: laid · VotesCounts: laid · VotesMeet: laid · VotesAll: laid · VotesAfter: laid · VotesQuorums: laid · VotesParts: laid · VotesBack: laid.
  DERIVED. THE GIVEN ROWS OF THIS SEAT. 8 by the template 'for every input the law returns true; each argument reads behind the call as it read before'; 0 by the template 'total and deterministic' (their statements: YtcgbjodeklknoaaDoorTotals.lean).
  GIVEN WITH THE SEED: the statements are not yours to turn. If you find one false, say at which input.
  Laid BY PROGRAM, IN A SANDBOX (cutbox-rows.mjs): the forced cells as the released guide's own fill.sh prints them over the translation f13901e43e587319… (all of the seat's roots in one cut). By AI agents, Wed Nov 11 2026. No macro, syntax, notation, axiom, sorry.
-/
import Derived.Test.YtcgbjodeklknoaaDoorChecked
import GoSem.Claim
import GoSem.ClaimJoined
import GoSem.ClaimMapViews
import Derived.JoinedTies
import Derived.KernelRfl
namespace Go.Proofs.YtcgbjodeklknoaaDoor
/- THE CELL 'sum', in the pinned program and in every row, IS THE sha256 OF THE DUMP (.gsa) THAT YtcgbjodeklknoaaDoorProg.lean LOADS. Nothing in Lean hashes anything: it is a label: what it is worth is what the hold of that sum in a sandbox is worth. -/
noncomputable def Tryd.pinned : Pinned := { name := "ytcgbjodeklknoaadoor", sum := "f13901e43e587319386307303bc542d9b20e8fcee1d773928ecb3312b83c418a", checked := Tryd.checked }
namespace Rows
def none {H : Type} : Left H := { results := [], args := [] }

/- WHAT THE LISTED PACKAGE-LEVEL VARIABLES READ AS WHEN THE CALL BEGINS. Each datum BY PROGRAM (the guide's laid-datum.mjs) off the statement by which the dump's own 'gosem.cut.vars' lays the variable. In a bare row this is a premise. The card (YtcgbjodeklknoaaDoorCards.lean) ties it to the program's text. -/
def laid_math_bits_deBruijn64tab {H : Type} : DataW H := .agg [.lit (.int .u8 0), .lit (.int .u8 1), .lit (.int .u8 56), .lit (.int .u8 2), .lit (.int .u8 57), .lit (.int .u8 49), .lit (.int .u8 28), .lit (.int .u8 3), .lit (.int .u8 61), .lit (.int .u8 58), .lit (.int .u8 42), .lit (.int .u8 50), .lit (.int .u8 38), .lit (.int .u8 29), .lit (.int .u8 17), .lit (.int .u8 4), .lit (.int .u8 62), .lit (.int .u8 47), .lit (.int .u8 59), .lit (.int .u8 36), .lit (.int .u8 45), .lit (.int .u8 43), .lit (.int .u8 51), .lit (.int .u8 22), .lit (.int .u8 53), .lit (.int .u8 39), .lit (.int .u8 33), .lit (.int .u8 30), .lit (.int .u8 24), .lit (.int .u8 18), .lit (.int .u8 12), .lit (.int .u8 5), .lit (.int .u8 63), .lit (.int .u8 55), .lit (.int .u8 48), .lit (.int .u8 27), .lit (.int .u8 60), .lit (.int .u8 41), .lit (.int .u8 37), .lit (.int .u8 16), .lit (.int .u8 46), .lit (.int .u8 35), .lit (.int .u8 44), .lit (.int .u8 21), .lit (.int .u8 52), .lit (.int .u8 32), .lit (.int .u8 23), .lit (.int .u8 11), .lit (.int .u8 54), .lit (.int .u8 26), .lit (.int .u8 40), .lit (.int .u8 15), .lit (.int .u8 34), .lit (.int .u8 20), .lit (.int .u8 31), .lit (.int .u8 10), .lit (.int .u8 25), .lit (.int .u8 14), .lit (.int .u8 19), .lit (.int .u8 9), .lit (.int .u8 13), .lit (.int .u8 8), .lit (.int .u8 7), .lit (.int .u8 6)]

/-- 'parrellaw06.VotesMakes': WHATEVER THE INPUT: true; the input reads as it did. -/
def votesMakesSpec : ChangeSpec := { name := "votesMakes", fn := fun _ => fun
  | [d1, d2] => { results := [.lit (.bool true)], args := [d1, d2] }
  | _ => none }
def votesMakesRow : OpenClaim := { program := "ytcgbjodeklknoaadoor", sum := "f13901e43e587319386307303bc542d9b20e8fcee1d773928ecb3312b83c418a", func := "parrel/parrellaw06.VotesMakes", spec := "votesMakes", unfollowed := true, recurses := true, named := ["math/bits.deBruijn64tab"], apart := false, laid := [("math/bits.deBruijn64tab", laid_math_bits_deBruijn64tab)] }
def VotesMakesSaid : Prop := votesMakesRow.holds Tryd.pinned (OpenSpec.ofChange votesMakesSpec)

/-- ITS FALSE NEIGHBOUR: 'it returns false'. Refute it at one input. -/
def votesMakesWrong : ChangeSpec := { name := "votesMakes", fn := fun _ => fun
  | [d1, d2] => { results := [.lit (.bool false)], args := [d1, d2] }
  | _ => none }
def VotesMakesWrongFalsely : Prop := votesMakesRow.holds Tryd.pinned (OpenSpec.ofChange votesMakesWrong)

/-- 'parrellaw06.VotesCounts': WHATEVER THE INPUT: true; the input reads as it did. -/
def votesCountsSpec : ChangeSpec := { name := "votesCounts", fn := fun _ => fun
  | [d1, d2] => { results := [.lit (.bool true)], args := [d1, d2] }
  | _ => none }
def votesCountsRow : OpenClaim := { program := "ytcgbjodeklknoaadoor", sum := "f13901e43e587319386307303bc542d9b20e8fcee1d773928ecb3312b83c418a", func := "parrel/parrellaw06.VotesCounts", spec := "votesCounts", unfollowed := true, recurses := true, named := ["math/bits.deBruijn64tab"], apart := false, laid := [("math/bits.deBruijn64tab", laid_math_bits_deBruijn64tab)] }
def VotesCountsSaid : Prop := votesCountsRow.holds Tryd.pinned (OpenSpec.ofChange votesCountsSpec)

/-- ITS FALSE NEIGHBOUR: 'it returns false'. Refute it at one input. -/
def votesCountsWrong : ChangeSpec := { name := "votesCounts", fn := fun _ => fun
  | [d1, d2] => { results := [.lit (.bool false)], args := [d1, d2] }
  | _ => none }
def VotesCountsWrongFalsely : Prop := votesCountsRow.holds Tryd.pinned (OpenSpec.ofChange votesCountsWrong)

/-- 'parrellaw06.VotesMeet': WHATEVER THE INPUT: true; the input reads as it did. -/
def votesMeetSpec : ChangeSpec := { name := "votesMeet", fn := fun _ => fun
  | [d1, d2, d3] => { results := [.lit (.bool true)], args := [d1, d2, d3] }
  | _ => none }
def votesMeetRow : OpenClaim := { program := "ytcgbjodeklknoaadoor", sum := "f13901e43e587319386307303bc542d9b20e8fcee1d773928ecb3312b83c418a", func := "parrel/parrellaw06.VotesMeet", spec := "votesMeet", unfollowed := true, recurses := true, named := ["math/bits.deBruijn64tab"], apart := false, laid := [("math/bits.deBruijn64tab", laid_math_bits_deBruijn64tab)] }
def VotesMeetSaid : Prop := votesMeetRow.holds Tryd.pinned (OpenSpec.ofChange votesMeetSpec)

/-- ITS FALSE NEIGHBOUR: 'it returns false'. Refute it at one input. -/
def votesMeetWrong : ChangeSpec := { name := "votesMeet", fn := fun _ => fun
  | [d1, d2, d3] => { results := [.lit (.bool false)], args := [d1, d2, d3] }
  | _ => none }
def VotesMeetWrongFalsely : Prop := votesMeetRow.holds Tryd.pinned (OpenSpec.ofChange votesMeetWrong)

/-- 'parrellaw06.VotesAll': WHATEVER THE INPUT: true; the input reads as it did. -/
def votesAllSpec : ChangeSpec := { name := "votesAll", fn := fun _ => fun
  | [d1, d2, d3] => { results := [.lit (.bool true)], args := [d1, d2, d3] }
  | _ => none }
def votesAllRow : OpenClaim := { program := "ytcgbjodeklknoaadoor", sum := "f13901e43e587319386307303bc542d9b20e8fcee1d773928ecb3312b83c418a", func := "parrel/parrellaw06.VotesAll", spec := "votesAll", unfollowed := true, recurses := true, named := ["math/bits.deBruijn64tab"], apart := false, laid := [("math/bits.deBruijn64tab", laid_math_bits_deBruijn64tab)] }
def VotesAllSaid : Prop := votesAllRow.holds Tryd.pinned (OpenSpec.ofChange votesAllSpec)

/-- ITS FALSE NEIGHBOUR: 'it returns false'. Refute it at one input. -/
def votesAllWrong : ChangeSpec := { name := "votesAll", fn := fun _ => fun
  | [d1, d2, d3] => { results := [.lit (.bool false)], args := [d1, d2, d3] }
  | _ => none }
def VotesAllWrongFalsely : Prop := votesAllRow.holds Tryd.pinned (OpenSpec.ofChange votesAllWrong)

/-- 'parrellaw06.VotesAfter': WHATEVER THE INPUT: true; the input reads as it did. -/
def votesAfterSpec : ChangeSpec := { name := "votesAfter", fn := fun _ => fun
  | [d1, d2] => { results := [.lit (.bool true)], args := [d1, d2] }
  | _ => none }
def votesAfterRow : OpenClaim := { program := "ytcgbjodeklknoaadoor", sum := "f13901e43e587319386307303bc542d9b20e8fcee1d773928ecb3312b83c418a", func := "parrel/parrellaw06.VotesAfter", spec := "votesAfter", unfollowed := true, recurses := true, named := ["math/bits.deBruijn64tab"], apart := false, laid := [("math/bits.deBruijn64tab", laid_math_bits_deBruijn64tab)] }
def VotesAfterSaid : Prop := votesAfterRow.holds Tryd.pinned (OpenSpec.ofChange votesAfterSpec)

/-- ITS FALSE NEIGHBOUR: 'it returns false'. Refute it at one input. -/
def votesAfterWrong : ChangeSpec := { name := "votesAfter", fn := fun _ => fun
  | [d1, d2] => { results := [.lit (.bool false)], args := [d1, d2] }
  | _ => none }
def VotesAfterWrongFalsely : Prop := votesAfterRow.holds Tryd.pinned (OpenSpec.ofChange votesAfterWrong)

/-- 'parrellaw06.VotesQuorums': WHATEVER THE INPUT: true; the input reads as it did. -/
def votesQuorumsSpec : ChangeSpec := { name := "votesQuorums", fn := fun _ => fun
  | [d1, d2, d3] => { results := [.lit (.bool true)], args := [d1, d2, d3] }
  | _ => none }
def votesQuorumsRow : OpenClaim := { program := "ytcgbjodeklknoaadoor", sum := "f13901e43e587319386307303bc542d9b20e8fcee1d773928ecb3312b83c418a", func := "parrel/parrellaw06.VotesQuorums", spec := "votesQuorums", unfollowed := true, recurses := true, named := ["math/bits.deBruijn64tab"], apart := false, laid := [("math/bits.deBruijn64tab", laid_math_bits_deBruijn64tab)] }
def VotesQuorumsSaid : Prop := votesQuorumsRow.holds Tryd.pinned (OpenSpec.ofChange votesQuorumsSpec)

/-- ITS FALSE NEIGHBOUR: 'it returns false'. Refute it at one input. -/
def votesQuorumsWrong : ChangeSpec := { name := "votesQuorums", fn := fun _ => fun
  | [d1, d2, d3] => { results := [.lit (.bool false)], args := [d1, d2, d3] }
  | _ => none }
def VotesQuorumsWrongFalsely : Prop := votesQuorumsRow.holds Tryd.pinned (OpenSpec.ofChange votesQuorumsWrong)

/-- 'parrellaw06.VotesParts': WHATEVER THE INPUT: true; the input reads as it did. -/
def votesPartsSpec : ChangeSpec := { name := "votesParts", fn := fun _ => fun
  | [d1, d2, d3] => { results := [.lit (.bool true)], args := [d1, d2, d3] }
  | _ => none }
def votesPartsRow : OpenClaim := { program := "ytcgbjodeklknoaadoor", sum := "f13901e43e587319386307303bc542d9b20e8fcee1d773928ecb3312b83c418a", func := "parrel/parrellaw06.VotesParts", spec := "votesParts", unfollowed := true, recurses := true, named := ["math/bits.deBruijn64tab"], apart := false, laid := [("math/bits.deBruijn64tab", laid_math_bits_deBruijn64tab)] }
def VotesPartsSaid : Prop := votesPartsRow.holds Tryd.pinned (OpenSpec.ofChange votesPartsSpec)

/-- ITS FALSE NEIGHBOUR: 'it returns false'. Refute it at one input. -/
def votesPartsWrong : ChangeSpec := { name := "votesParts", fn := fun _ => fun
  | [d1, d2, d3] => { results := [.lit (.bool false)], args := [d1, d2, d3] }
  | _ => none }
def VotesPartsWrongFalsely : Prop := votesPartsRow.holds Tryd.pinned (OpenSpec.ofChange votesPartsWrong)

/-- 'parrellaw06.VotesBack': WHATEVER THE INPUT: true; the input reads as it did. -/
def votesBackSpec : ChangeSpec := { name := "votesBack", fn := fun _ => fun
  | [d] => { results := [.lit (.bool true)], args := [d] }
  | _ => none }
def votesBackRow : OpenClaim := { program := "ytcgbjodeklknoaadoor", sum := "f13901e43e587319386307303bc542d9b20e8fcee1d773928ecb3312b83c418a", func := "parrel/parrellaw06.VotesBack", spec := "votesBack", unfollowed := true, recurses := true, named := ["math/bits.deBruijn64tab"], apart := false, laid := [("math/bits.deBruijn64tab", laid_math_bits_deBruijn64tab)] }
def VotesBackSaid : Prop := votesBackRow.holds Tryd.pinned (OpenSpec.ofChange votesBackSpec)

/-- ITS FALSE NEIGHBOUR: 'it returns false'. Refute it at one input. -/
def votesBackWrong : ChangeSpec := { name := "votesBack", fn := fun _ => fun
  | [d] => { results := [.lit (.bool false)], args := [d] }
  | _ => none }
def VotesBackWrongFalsely : Prop := votesBackRow.holds Tryd.pinned (OpenSpec.ofChange votesBackWrong)

/- THE SECOND FORM. 'bulk': how many values and letters a reading holds, each counted each time it is reached (what is shared counts as often as it is met; a slice's spare places count too). A statement '..UptoSaid' is the law's where the arguments, and the package variables that the reading takes, are together of bulk at most 1048576: NARROWER than '..Said'. Prove '..Said' where nothing that the law and all that it calls make is longer than what came in: it says more and counts as full. Else prove '..UptoSaid'. A law counts once. -/
mutual
def uptoBulk {H : Type} : DataW H → Nat
  | .lit (.string bytes) => bytes.length + 1
  | .lit _ => 1
  | .nil => 1
  | .ptr d => uptoBulk d + 1
  | .slice elems spare => uptoBulkAll elems + uptoBulkAll spare + 1
  | .agg parts => uptoBulkAll parts + 1
  | .iface _ d => uptoBulk d + 1
  | .map entries => uptoBulkEntries entries + 1
  | .held _ => 1
def uptoBulkAll {H : Type} : List (DataW H) → Nat
  | [] => 0
  | d :: r => uptoBulk d + uptoBulkAll r
def uptoBulkEntries {H : Type} : List (Lit × DataW H) → Nat
  | [] => 0
  | x :: r => uptoBulkEntry x + uptoBulkEntries r
def uptoBulkEntry {H : Type} : Lit × DataW H → Nat
  | (.string bytes, d) => bytes.length + uptoBulk d + 1
  | (_, d) => uptoBulk d + 1
 end
def uptoSmall : (H : Type) → List (DataW H) → Bool := fun _ ds => decide (uptoBulkAll ds ≤ 1048576)
def OpenSpec.upto (s : _root_.Go.ChangeSpec) : _root_.Go.OpenSpec := { _root_.Go.OpenSpec.ofChange s with cond := some uptoSmall }

/-- 'parrellaw06.VotesMakes', WHERE WHAT IT READS IS OF BULK AT MOST 1048576: true; the input reads as it did. -/
def votesMakesUptoRow : OpenClaim := { program := "ytcgbjodeklknoaadoor", sum := "f13901e43e587319386307303bc542d9b20e8fcee1d773928ecb3312b83c418a", func := "parrel/parrellaw06.VotesMakes", spec := "votesMakes", unfollowed := true, recurses := true, named := ["math/bits.deBruijn64tab"], apart := false, laid := [("math/bits.deBruijn64tab", laid_math_bits_deBruijn64tab)], narrowed := true }
def VotesMakesUptoSaid : Prop := votesMakesUptoRow.holds Tryd.pinned (OpenSpec.upto votesMakesSpec)

/-- 'parrellaw06.VotesCounts', WHERE WHAT IT READS IS OF BULK AT MOST 1048576: true; the input reads as it did. -/
def votesCountsUptoRow : OpenClaim := { program := "ytcgbjodeklknoaadoor", sum := "f13901e43e587319386307303bc542d9b20e8fcee1d773928ecb3312b83c418a", func := "parrel/parrellaw06.VotesCounts", spec := "votesCounts", unfollowed := true, recurses := true, named := ["math/bits.deBruijn64tab"], apart := false, laid := [("math/bits.deBruijn64tab", laid_math_bits_deBruijn64tab)], narrowed := true }
def VotesCountsUptoSaid : Prop := votesCountsUptoRow.holds Tryd.pinned (OpenSpec.upto votesCountsSpec)

/-- 'parrellaw06.VotesMeet', WHERE WHAT IT READS IS OF BULK AT MOST 1048576: true; the input reads as it did. -/
def votesMeetUptoRow : OpenClaim := { program := "ytcgbjodeklknoaadoor", sum := "f13901e43e587319386307303bc542d9b20e8fcee1d773928ecb3312b83c418a", func := "parrel/parrellaw06.VotesMeet", spec := "votesMeet", unfollowed := true, recurses := true, named := ["math/bits.deBruijn64tab"], apart := false, laid := [("math/bits.deBruijn64tab", laid_math_bits_deBruijn64tab)], narrowed := true }
def VotesMeetUptoSaid : Prop := votesMeetUptoRow.holds Tryd.pinned (OpenSpec.upto votesMeetSpec)

/-- 'parrellaw06.VotesAll', WHERE WHAT IT READS IS OF BULK AT MOST 1048576: true; the input reads as it did. -/
def votesAllUptoRow : OpenClaim := { program := "ytcgbjodeklknoaadoor", sum := "f13901e43e587319386307303bc542d9b20e8fcee1d773928ecb3312b83c418a", func := "parrel/parrellaw06.VotesAll", spec := "votesAll", unfollowed := true, recurses := true, named := ["math/bits.deBruijn64tab"], apart := false, laid := [("math/bits.deBruijn64tab", laid_math_bits_deBruijn64tab)], narrowed := true }
def VotesAllUptoSaid : Prop := votesAllUptoRow.holds Tryd.pinned (OpenSpec.upto votesAllSpec)

/-- 'parrellaw06.VotesAfter', WHERE WHAT IT READS IS OF BULK AT MOST 1048576: true; the input reads as it did. -/
def votesAfterUptoRow : OpenClaim := { program := "ytcgbjodeklknoaadoor", sum := "f13901e43e587319386307303bc542d9b20e8fcee1d773928ecb3312b83c418a", func := "parrel/parrellaw06.VotesAfter", spec := "votesAfter", unfollowed := true, recurses := true, named := ["math/bits.deBruijn64tab"], apart := false, laid := [("math/bits.deBruijn64tab", laid_math_bits_deBruijn64tab)], narrowed := true }
def VotesAfterUptoSaid : Prop := votesAfterUptoRow.holds Tryd.pinned (OpenSpec.upto votesAfterSpec)

/-- 'parrellaw06.VotesQuorums', WHERE WHAT IT READS IS OF BULK AT MOST 1048576: true; the input reads as it did. -/
def votesQuorumsUptoRow : OpenClaim := { program := "ytcgbjodeklknoaadoor", sum := "f13901e43e587319386307303bc542d9b20e8fcee1d773928ecb3312b83c418a", func := "parrel/parrellaw06.VotesQuorums", spec := "votesQuorums", unfollowed := true, recurses := true, named := ["math/bits.deBruijn64tab"], apart := false, laid := [("math/bits.deBruijn64tab", laid_math_bits_deBruijn64tab)], narrowed := true }
def VotesQuorumsUptoSaid : Prop := votesQuorumsUptoRow.holds Tryd.pinned (OpenSpec.upto votesQuorumsSpec)

/-- 'parrellaw06.VotesParts', WHERE WHAT IT READS IS OF BULK AT MOST 1048576: true; the input reads as it did. -/
def votesPartsUptoRow : OpenClaim := { program := "ytcgbjodeklknoaadoor", sum := "f13901e43e587319386307303bc542d9b20e8fcee1d773928ecb3312b83c418a", func := "parrel/parrellaw06.VotesParts", spec := "votesParts", unfollowed := true, recurses := true, named := ["math/bits.deBruijn64tab"], apart := false, laid := [("math/bits.deBruijn64tab", laid_math_bits_deBruijn64tab)], narrowed := true }
def VotesPartsUptoSaid : Prop := votesPartsUptoRow.holds Tryd.pinned (OpenSpec.upto votesPartsSpec)

/-- 'parrellaw06.VotesBack', WHERE WHAT IT READS IS OF BULK AT MOST 1048576: true; the input reads as it did. -/
def votesBackUptoRow : OpenClaim := { program := "ytcgbjodeklknoaadoor", sum := "f13901e43e587319386307303bc542d9b20e8fcee1d773928ecb3312b83c418a", func := "parrel/parrellaw06.VotesBack", spec := "votesBack", unfollowed := true, recurses := true, named := ["math/bits.deBruijn64tab"], apart := false, laid := [("math/bits.deBruijn64tab", laid_math_bits_deBruijn64tab)], narrowed := true }
def VotesBackUptoSaid : Prop := votesBackUptoRow.holds Tryd.pinned (OpenSpec.upto votesBackSpec)

end Rows
end Go.Proofs.YtcgbjodeklknoaaDoor
