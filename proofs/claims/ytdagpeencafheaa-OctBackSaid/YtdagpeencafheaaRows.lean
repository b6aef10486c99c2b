/-
  No cell of these rows narrows 'for every input' (looked for: loops, veiled, ifaces, maps, wideKeys, modest, calm, conditions, laid).
  DERIVED. THE GIVEN ROWS OF THIS SEAT. 9 by the template 'for every input the law returns true; each argument reads behind the call as it read before'; 0 by the template 'total and deterministic' (their statements: YtdagpeencafheaaTotals.lean).
  GIVEN WITH THE SEED: the statements are not yours to turn. If you find one false, say at which input.
  Laid BY PROGRAM, IN A SANDBOX (cutbox-rows.mjs): the forced cells as the released guide's own fill.sh prints them over the translation f0b2fd2de8c81a28… (all of the seat's roots in one cut). By AI agents, Wed Nov 11 2026. No macro, syntax, notation, axiom, sorry.
-/
import Derived.Test.YtdagpeencafheaaChecked
import GoSem.Claim
import GoSem.ClaimJoined
import GoSem.ClaimMapViews
import Derived.JoinedTies
import Derived.KernelRfl
namespace Go.Proofs.Ytdagpeencafheaa
/- THE CELL 'sum', in the pinned program and in every row, IS THE sha256 OF THE DUMP (.gsa) THAT YtdagpeencafheaaProg.lean LOADS. Nothing in Lean hashes anything: it is a label: what it is worth is what the hold of that sum in a sandbox is worth. -/
noncomputable def Try.pinned : Pinned := { name := "ytdagpeencafheaa", sum := "f0b2fd2de8c81a287c904fcb2267d70d43f059c1ce6e9eb4b130726003bafea1", checked := Try.checked }
namespace Rows
def none {H : Type} : Left H := { results := [], args := [] }

/-- 'trothlaw01.OctTurned': WHATEVER THE INPUT: true; the input reads as it did. -/
def octTurnedSpec : ChangeSpec := { name := "octTurned", fn := fun _ => fun
  | [d1, d2, d3] => { results := [.lit (.bool true)], args := [d1, d2, d3] }
  | _ => none }
def octTurnedRow : OpenClaim := { program := "ytdagpeencafheaa", sum := "f0b2fd2de8c81a287c904fcb2267d70d43f059c1ce6e9eb4b130726003bafea1", func := "troth/trothlaw01.OctTurned", spec := "octTurned", apart := false }
def OctTurnedSaid : Prop := octTurnedRow.holds Try.pinned (OpenSpec.ofChange octTurnedSpec)

/-- ITS FALSE NEIGHBOUR: 'it returns false'. Refute it at one input. -/
def octTurnedWrong : ChangeSpec := { name := "octTurned", fn := fun _ => fun
  | [d1, d2, d3] => { results := [.lit (.bool false)], args := [d1, d2, d3] }
  | _ => none }
def OctTurnedWrongFalsely : Prop := octTurnedRow.holds Try.pinned (OpenSpec.ofChange octTurnedWrong)

/-- 'trothlaw01.OctSums': WHATEVER THE INPUT: true; the input reads as it did. -/
def octSumsSpec : ChangeSpec := { name := "octSums", fn := fun _ => fun
  | [d1, d2, d3, d4] => { results := [.lit (.bool true)], args := [d1, d2, d3, d4] }
  | _ => none }
def octSumsRow : OpenClaim := { program := "ytdagpeencafheaa", sum := "f0b2fd2de8c81a287c904fcb2267d70d43f059c1ce6e9eb4b130726003bafea1", func := "troth/trothlaw01.OctSums", spec := "octSums", apart := false }
def OctSumsSaid : Prop := octSumsRow.holds Try.pinned (OpenSpec.ofChange octSumsSpec)

/-- ITS FALSE NEIGHBOUR: 'it returns false'. Refute it at one input. -/
def octSumsWrong : ChangeSpec := { name := "octSums", fn := fun _ => fun
  | [d1, d2, d3, d4] => { results := [.lit (.bool false)], args := [d1, d2, d3, d4] }
  | _ => none }
def OctSumsWrongFalsely : Prop := octSumsRow.holds Try.pinned (OpenSpec.ofChange octSumsWrong)

/-- 'trothlaw01.OctPieces': WHATEVER THE INPUT: true; the input reads as it did. -/
def octPiecesSpec : ChangeSpec := { name := "octPieces", fn := fun _ => fun
  | [d1, d2] => { results := [.lit (.bool true)], args := [d1, d2] }
  | _ => none }
def octPiecesRow : OpenClaim := { program := "ytdagpeencafheaa", sum := "f0b2fd2de8c81a287c904fcb2267d70d43f059c1ce6e9eb4b130726003bafea1", func := "troth/trothlaw01.OctPieces", spec := "octPieces", apart := false }
def OctPiecesSaid : Prop := octPiecesRow.holds Try.pinned (OpenSpec.ofChange octPiecesSpec)

/-- ITS FALSE NEIGHBOUR: 'it returns false'. Refute it at one input. -/
def octPiecesWrong : ChangeSpec := { name := "octPieces", fn := fun _ => fun
  | [d1, d2] => { results := [.lit (.bool false)], args := [d1, d2] }
  | _ => none }
def OctPiecesWrongFalsely : Prop := octPiecesRow.holds Try.pinned (OpenSpec.ofChange octPiecesWrong)

/-- 'trothlaw01.OctNumbers': WHATEVER THE INPUT: true; the input reads as it did. -/
def octNumbersSpec : ChangeSpec := { name := "octNumbers", fn := fun _ => fun
  | [d1, d2, d3] => { results := [.lit (.bool true)], args := [d1, d2, d3] }
  | _ => none }
def octNumbersRow : OpenClaim := { program := "ytdagpeencafheaa", sum := "f0b2fd2de8c81a287c904fcb2267d70d43f059c1ce6e9eb4b130726003bafea1", func := "troth/trothlaw01.OctNumbers", spec := "octNumbers", apart := false }
def OctNumbersSaid : Prop := octNumbersRow.holds Try.pinned (OpenSpec.ofChange octNumbersSpec)

/-- ITS FALSE NEIGHBOUR: 'it returns false'. Refute it at one input. -/
def octNumbersWrong : ChangeSpec := { name := "octNumbers", fn := fun _ => fun
  | [d1, d2, d3] => { results := [.lit (.bool false)], args := [d1, d2, d3] }
  | _ => none }
def OctNumbersWrongFalsely : Prop := octNumbersRow.holds Try.pinned (OpenSpec.ofChange octNumbersWrong)

/-- 'trothlaw01.OctJoins': WHATEVER THE INPUT: true; the input reads as it did. -/
def octJoinsSpec : ChangeSpec := { name := "octJoins", fn := fun _ => fun
  | [d] => { results := [.lit (.bool true)], args := [d] }
  | _ => none }
def octJoinsRow : OpenClaim := { program := "ytdagpeencafheaa", sum := "f0b2fd2de8c81a287c904fcb2267d70d43f059c1ce6e9eb4b130726003bafea1", func := "troth/trothlaw01.OctJoins", spec := "octJoins", unfollowed := true, recurses := true, apart := false }
def OctJoinsSaid : Prop := octJoinsRow.holds Try.pinned (OpenSpec.ofChange octJoinsSpec)

/-- ITS FALSE NEIGHBOUR: 'it returns false'. Refute it at one input. -/
def octJoinsWrong : ChangeSpec := { name := "octJoins", fn := fun _ => fun
  | [d] => { results := [.lit (.bool false)], args := [d] }
  | _ => none }
def OctJoinsWrongFalsely : Prop := octJoinsRow.holds Try.pinned (OpenSpec.ofChange octJoinsWrong)

/-- 'trothlaw01.OctDigits': WHATEVER THE INPUT: true; the input reads as it did. -/
def octDigitsSpec : ChangeSpec := { name := "octDigits", fn := fun _ => fun
  | [d1, d2] => { results := [.lit (.bool true)], args := [d1, d2] }
  | _ => none }
def octDigitsRow : OpenClaim := { program := "ytdagpeencafheaa", sum := "f0b2fd2de8c81a287c904fcb2267d70d43f059c1ce6e9eb4b130726003bafea1", func := "troth/trothlaw01.OctDigits", spec := "octDigits", apart := false }
def OctDigitsSaid : Prop := octDigitsRow.holds Try.pinned (OpenSpec.ofChange octDigitsSpec)

/-- ITS FALSE NEIGHBOUR: 'it returns false'. Refute it at one input. -/
def octDigitsWrong : ChangeSpec := { name := "octDigits", fn := fun _ => fun
  | [d1, d2] => { results := [.lit (.bool false)], args := [d1, d2] }
  | _ => none }
def OctDigitsWrongFalsely : Prop := octDigitsRow.holds Try.pinned (OpenSpec.ofChange octDigitsWrong)

/-- 'trothlaw01.OctSplits': WHATEVER THE INPUT: true; the input reads as it did. -/
def octSplitsSpec : ChangeSpec := { name := "octSplits", fn := fun _ => fun
  | [d] => { results := [.lit (.bool true)], args := [d] }
  | _ => none }
def octSplitsRow : OpenClaim := { program := "ytdagpeencafheaa", sum := "f0b2fd2de8c81a287c904fcb2267d70d43f059c1ce6e9eb4b130726003bafea1", func := "troth/trothlaw01.OctSplits", spec := "octSplits", unfollowed := true, recurses := true, apart := false }
def OctSplitsSaid : Prop := octSplitsRow.holds Try.pinned (OpenSpec.ofChange octSplitsSpec)

/-- ITS FALSE NEIGHBOUR: 'it returns false'. Refute it at one input. -/
def octSplitsWrong : ChangeSpec := { name := "octSplits", fn := fun _ => fun
  | [d] => { results := [.lit (.bool false)], args := [d] }
  | _ => none }
def OctSplitsWrongFalsely : Prop := octSplitsRow.holds Try.pinned (OpenSpec.ofChange octSplitsWrong)

/-- 'trothlaw01.OctAgain': WHATEVER THE INPUT: true; the input reads as it did. -/
def octAgainSpec : ChangeSpec := { name := "octAgain", fn := fun _ => fun
  | [d1, d2] => { results := [.lit (.bool true)], args := [d1, d2] }
  | _ => none }
def octAgainRow : OpenClaim := { program := "ytdagpeencafheaa", sum := "f0b2fd2de8c81a287c904fcb2267d70d43f059c1ce6e9eb4b130726003bafea1", func := "troth/trothlaw01.OctAgain", spec := "octAgain", unfollowed := true, recurses := true, apart := false }
def OctAgainSaid : Prop := octAgainRow.holds Try.pinned (OpenSpec.ofChange octAgainSpec)

/-- ITS FALSE NEIGHBOUR: 'it returns false'. Refute it at one input. -/
def octAgainWrong : ChangeSpec := { name := "octAgain", fn := fun _ => fun
  | [d1, d2] => { results := [.lit (.bool false)], args := [d1, d2] }
  | _ => none }
def OctAgainWrongFalsely : Prop := octAgainRow.holds Try.pinned (OpenSpec.ofChange octAgainWrong)

/-- 'trothlaw01.OctBack': WHATEVER THE INPUT: true; the input reads as it did. -/
def octBackSpec : ChangeSpec := { name := "octBack", fn := fun _ => fun
  | [d1, d2, d3] => { results := [.lit (.bool true)], args := [d1, d2, d3] }
  | _ => none }
def octBackRow : OpenClaim := { program := "ytdagpeencafheaa", sum := "f0b2fd2de8c81a287c904fcb2267d70d43f059c1ce6e9eb4b130726003bafea1", func := "troth/trothlaw01.OctBack", spec := "octBack", unfollowed := true, recurses := true, apart := false }
def OctBackSaid : Prop := octBackRow.holds Try.pinned (OpenSpec.ofChange octBackSpec)

/-- ITS FALSE NEIGHBOUR: 'it returns false'. Refute it at one input. -/
def octBackWrong : ChangeSpec := { name := "octBack", fn := fun _ => fun
  | [d1, d2, d3] => { results := [.lit (.bool false)], args := [d1, d2, d3] }
  | _ => none }
def OctBackWrongFalsely : Prop := octBackRow.holds Try.pinned (OpenSpec.ofChange octBackWrong)

/- THE SECOND FORM. 'bulk': how many values and letters a reading holds, each counted each time it is reached (what is shared counts as often as it is met; a slice's spare places count too). A statement '..UptoSaid' is the law's where the arguments, and the package variables that the reading takes, are together of bulk at most 1048576: NARROWER than '..Said'. Prove '..Said' where nothing that the law and all that it calls make is longer than what came in: it says more and counts as full. Else prove '..UptoSaid'. A law counts once. -/
mutual
def uptoBulk {H : Type} : DataW H → Nat
  | .lit (.string bytes) => bytes.length + 1
  | .lit _ => 1
  | .nil => 1
  | .ptr d => uptoBulk d + 1
  | .slice elems spare => uptoBulkAll elems + uptoBulkAll spare + 1
  | .agg parts => uptoBulkAll parts + 1
  | .iface _ d => uptoBulk d + 1
  | .map entries => uptoBulkEntries entries + 1
  | .held _ => 1
def uptoBulkAll {H : Type} : List (DataW H) → Nat
  | [] => 0
  | d :: r => uptoBulk d + uptoBulkAll r
def uptoBulkEntries {H : Type} : List (Lit × DataW H) → Nat
  | [] => 0
  | x :: r => uptoBulkEntry x + uptoBulkEntries r
def uptoBulkEntry {H : Type} : Lit × DataW H → Nat
  | (.string bytes, d) => bytes.length + uptoBulk d + 1
  | (_, d) => uptoBulk d + 1
 end
def uptoSmall : (H : Type) → List (DataW H) → Bool := fun _ ds => decide (uptoBulkAll ds ≤ 1048576)
def OpenSpec.upto (s : _root_.Go.ChangeSpec) : _root_.Go.OpenSpec := { _root_.Go.OpenSpec.ofChange s with cond := some uptoSmall }

/-- 'trothlaw01.OctTurned', WHERE WHAT IT READS IS OF BULK AT MOST 1048576: true; the input reads as it did. -/
def octTurnedUptoRow : OpenClaim := { program := "ytdagpeencafheaa", sum := "f0b2fd2de8c81a287c904fcb2267d70d43f059c1ce6e9eb4b130726003bafea1", func := "troth/trothlaw01.OctTurned", spec := "octTurned", apart := false, narrowed := true }
def OctTurnedUptoSaid : Prop := octTurnedUptoRow.holds Try.pinned (OpenSpec.upto octTurnedSpec)

/-- 'trothlaw01.OctSums', WHERE WHAT IT READS IS OF BULK AT MOST 1048576: true; the input reads as it did. -/
def octSumsUptoRow : OpenClaim := { program := "ytdagpeencafheaa", sum := "f0b2fd2de8c81a287c904fcb2267d70d43f059c1ce6e9eb4b130726003bafea1", func := "troth/trothlaw01.OctSums", spec := "octSums", apart := false, narrowed := true }
def OctSumsUptoSaid : Prop := octSumsUptoRow.holds Try.pinned (OpenSpec.upto octSumsSpec)

/-- 'trothlaw01.OctPieces', WHERE WHAT IT READS IS OF BULK AT MOST 1048576: true; the input reads as it did. -/
def octPiecesUptoRow : OpenClaim := { program := "ytdagpeencafheaa", sum := "f0b2fd2de8c81a287c904fcb2267d70d43f059c1ce6e9eb4b130726003bafea1", func := "troth/trothlaw01.OctPieces", spec := "octPieces", apart := false, narrowed := true }
def OctPiecesUptoSaid : Prop := octPiecesUptoRow.holds Try.pinned (OpenSpec.upto octPiecesSpec)

/-- 'trothlaw01.OctNumbers', WHERE WHAT IT READS IS OF BULK AT MOST 1048576: true; the input reads as it did. -/
def octNumbersUptoRow : OpenClaim := { program := "ytdagpeencafheaa", sum := "f0b2fd2de8c81a287c904fcb2267d70d43f059c1ce6e9eb4b130726003bafea1", func := "troth/trothlaw01.OctNumbers", spec := "octNumbers", apart := false, narrowed := true }
def OctNumbersUptoSaid : Prop := octNumbersUptoRow.holds Try.pinned (OpenSpec.upto octNumbersSpec)

/-- 'trothlaw01.OctJoins', WHERE WHAT IT READS IS OF BULK AT MOST 1048576: true; the input reads as it did. -/
def octJoinsUptoRow : OpenClaim := { program := "ytdagpeencafheaa", sum := "f0b2fd2de8c81a287c904fcb2267d70d43f059c1ce6e9eb4b130726003bafea1", func := "troth/trothlaw01.OctJoins", spec := "octJoins", unfollowed := true, recurses := true, apart := false, narrowed := true }
def OctJoinsUptoSaid : Prop := octJoinsUptoRow.holds Try.pinned (OpenSpec.upto octJoinsSpec)

/-- 'trothlaw01.OctDigits', WHERE WHAT IT READS IS OF BULK AT MOST 1048576: true; the input reads as it did. -/
def octDigitsUptoRow : OpenClaim := { program := "ytdagpeencafheaa", sum := "f0b2fd2de8c81a287c904fcb2267d70d43f059c1ce6e9eb4b130726003bafea1", func := "troth/trothlaw01.OctDigits", spec := "octDigits", apart := false, narrowed := true }
def OctDigitsUptoSaid : Prop := octDigitsUptoRow.holds Try.pinned (OpenSpec.upto octDigitsSpec)

/-- 'trothlaw01.OctSplits', WHERE WHAT IT READS IS OF BULK AT MOST 1048576: true; the input reads as it did. -/
def octSplitsUptoRow : OpenClaim := { program := "ytdagpeencafheaa", sum := "f0b2fd2de8c81a287c904fcb2267d70d43f059c1ce6e9eb4b130726003bafea1", func := "troth/trothlaw01.OctSplits", spec := "octSplits", unfollowed := true, recurses := true, apart := false, narrowed := true }
def OctSplitsUptoSaid : Prop := octSplitsUptoRow.holds Try.pinned (OpenSpec.upto octSplitsSpec)

/-- 'trothlaw01.OctAgain', WHERE WHAT IT READS IS OF BULK AT MOST 1048576: true; the input reads as it did. -/
def octAgainUptoRow : OpenClaim := { program := "ytdagpeencafheaa", sum := "f0b2fd2de8c81a287c904fcb2267d70d43f059c1ce6e9eb4b130726003bafea1", func := "troth/trothlaw01.OctAgain", spec := "octAgain", unfollowed := true, recurses := true, apart := false, narrowed := true }
def OctAgainUptoSaid : Prop := octAgainUptoRow.holds Try.pinned (OpenSpec.upto octAgainSpec)

/-- 'trothlaw01.OctBack', WHERE WHAT IT READS IS OF BULK AT MOST 1048576: true; the input reads as it did. -/
def octBackUptoRow : OpenClaim := { program := "ytdagpeencafheaa", sum := "f0b2fd2de8c81a287c904fcb2267d70d43f059c1ce6e9eb4b130726003bafea1", func := "troth/trothlaw01.OctBack", spec := "octBack", unfollowed := true, recurses := true, apart := false, narrowed := true }
def OctBackUptoSaid : Prop := octBackUptoRow.holds Try.pinned (OpenSpec.upto octBackSpec)

end Rows
end Go.Proofs.Ytdagpeencafheaa
