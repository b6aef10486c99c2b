/-
  No cell of these rows narrows 'for every input' (looked for: loops, veiled, ifaces, maps, wideKeys, modest, calm, conditions, laid).
  DERIVED. THE GIVEN ROWS OF THIS SEAT. 10 by the template 'for every input the law returns true; each argument reads behind the call as it read before'; 0 by the template 'total and deterministic' (their statements: YtilogpjbdemceaaTotals.lean).
  GIVEN WITH THE SEED: the statements are not yours to turn. If you find one false, say at which input.
  Laid BY PROGRAM, IN A SANDBOX (cutbox-rows.mjs): the forced cells as the released guide's own fill.sh prints them over the translation f611ed4bd5db69fc… (all of the seat's roots in one cut). By AI agents, Wed Nov 11 2026. No macro, syntax, notation, axiom, sorry.
-/
import Derived.Test.YtilogpjbdemceaaChecked
import GoSem.Claim
import GoSem.ClaimJoined
import GoSem.ClaimMapViews
import Derived.JoinedTies
import Derived.KernelRfl
namespace Go.Proofs.Ytilogpjbdemceaa
/- THE CELL 'sum', in the pinned program and in every row, IS THE sha256 OF THE DUMP (.gsa) THAT YtilogpjbdemceaaProg.lean LOADS. Nothing in Lean hashes anything: it is a label: what it is worth is what the hold of that sum in a sandbox is worth. -/
noncomputable def Try.pinned : Pinned := { name := "ytilogpjbdemceaa", sum := "f611ed4bd5db69fc4647370971e4050a5e2a573ad2e9a59e609142bb62ac243c", checked := Try.checked }
namespace Rows
def none {H : Type} : Left H := { results := [], args := [] }

/-- 'trothlaw08.PathSent': WHATEVER THE INPUT: true; the input reads as it did. -/
def pathSentSpec : ChangeSpec := { name := "pathSent", fn := fun _ => fun
  | [d] => { results := [.lit (.bool true)], args := [d] }
  | _ => none }
def pathSentRow : OpenClaim := { program := "ytilogpjbdemceaa", sum := "f611ed4bd5db69fc4647370971e4050a5e2a573ad2e9a59e609142bb62ac243c", func := "troth/trothlaw08.PathSent", spec := "pathSent", apart := false }
def PathSentSaid : Prop := pathSentRow.holds Try.pinned (OpenSpec.ofChange pathSentSpec)

/-- ITS FALSE NEIGHBOUR: 'it returns false'. Refute it at one input. -/
def pathSentWrong : ChangeSpec := { name := "pathSent", fn := fun _ => fun
  | [d] => { results := [.lit (.bool false)], args := [d] }
  | _ => none }
def PathSentWrongFalsely : Prop := pathSentRow.holds Try.pinned (OpenSpec.ofChange pathSentWrong)

/-- 'trothlaw08.PathFirst': WHATEVER THE INPUT: true; the input reads as it did. -/
def pathFirstSpec : ChangeSpec := { name := "pathFirst", fn := fun _ => fun
  | [d] => { results := [.lit (.bool true)], args := [d] }
  | _ => none }
def pathFirstRow : OpenClaim := { program := "ytilogpjbdemceaa", sum := "f611ed4bd5db69fc4647370971e4050a5e2a573ad2e9a59e609142bb62ac243c", func := "troth/trothlaw08.PathFirst", spec := "pathFirst", apart := false }
def PathFirstSaid : Prop := pathFirstRow.holds Try.pinned (OpenSpec.ofChange pathFirstSpec)

/-- ITS FALSE NEIGHBOUR: 'it returns false'. Refute it at one input. -/
def pathFirstWrong : ChangeSpec := { name := "pathFirst", fn := fun _ => fun
  | [d] => { results := [.lit (.bool false)], args := [d] }
  | _ => none }
def PathFirstWrongFalsely : Prop := pathFirstRow.holds Try.pinned (OpenSpec.ofChange pathFirstWrong)

/-- 'trothlaw11.RecsWhole': WHATEVER THE INPUT: true; the input reads as it did. -/
def recsWholeSpec : ChangeSpec := { name := "recsWhole", fn := fun _ => fun
  | [d1, d2, d3] => { results := [.lit (.bool true)], args := [d1, d2, d3] }
  | _ => none }
def recsWholeRow : OpenClaim := { program := "ytilogpjbdemceaa", sum := "f611ed4bd5db69fc4647370971e4050a5e2a573ad2e9a59e609142bb62ac243c", func := "troth/trothlaw11.RecsWhole", spec := "recsWhole", apart := false }
def RecsWholeSaid : Prop := recsWholeRow.holds Try.pinned (OpenSpec.ofChange recsWholeSpec)

/-- ITS FALSE NEIGHBOUR: 'it returns false'. Refute it at one input. -/
def recsWholeWrong : ChangeSpec := { name := "recsWhole", fn := fun _ => fun
  | [d1, d2, d3] => { results := [.lit (.bool false)], args := [d1, d2, d3] }
  | _ => none }
def RecsWholeWrongFalsely : Prop := recsWholeRow.holds Try.pinned (OpenSpec.ofChange recsWholeWrong)

/-- 'trothlaw08.PathLives': WHATEVER THE INPUT: true; the input reads as it did. -/
def pathLivesSpec : ChangeSpec := { name := "pathLives", fn := fun _ => fun
  | [d] => { results := [.lit (.bool true)], args := [d] }
  | _ => none }
def pathLivesRow : OpenClaim := { program := "ytilogpjbdemceaa", sum := "f611ed4bd5db69fc4647370971e4050a5e2a573ad2e9a59e609142bb62ac243c", func := "troth/trothlaw08.PathLives", spec := "pathLives", apart := false }
def PathLivesSaid : Prop := pathLivesRow.holds Try.pinned (OpenSpec.ofChange pathLivesSpec)

/-- ITS FALSE NEIGHBOUR: 'it returns false'. Refute it at one input. -/
def pathLivesWrong : ChangeSpec := { name := "pathLives", fn := fun _ => fun
  | [d] => { results := [.lit (.bool false)], args := [d] }
  | _ => none }
def PathLivesWrongFalsely : Prop := pathLivesRow.holds Try.pinned (OpenSpec.ofChange pathLivesWrong)

/-- 'trothlaw08.PathNobody': WHATEVER THE INPUT: true; the input reads as it did. -/
def pathNobodySpec : ChangeSpec := { name := "pathNobody", fn := fun _ => fun
  | [d1, d2] => { results := [.lit (.bool true)], args := [d1, d2] }
  | _ => none }
def pathNobodyRow : OpenClaim := { program := "ytilogpjbdemceaa", sum := "f611ed4bd5db69fc4647370971e4050a5e2a573ad2e9a59e609142bb62ac243c", func := "troth/trothlaw08.PathNobody", spec := "pathNobody", apart := false }
def PathNobodySaid : Prop := pathNobodyRow.holds Try.pinned (OpenSpec.ofChange pathNobodySpec)

/-- ITS FALSE NEIGHBOUR: 'it returns false'. Refute it at one input. -/
def pathNobodyWrong : ChangeSpec := { name := "pathNobody", fn := fun _ => fun
  | [d1, d2] => { results := [.lit (.bool false)], args := [d1, d2] }
  | _ => none }
def PathNobodyWrongFalsely : Prop := pathNobodyRow.holds Try.pinned (OpenSpec.ofChange pathNobodyWrong)

/-- 'trothlaw08.PathCounts': WHATEVER THE INPUT: true; the input reads as it did. -/
def pathCountsSpec : ChangeSpec := { name := "pathCounts", fn := fun _ => fun
  | [d] => { results := [.lit (.bool true)], args := [d] }
  | _ => none }
def pathCountsRow : OpenClaim := { program := "ytilogpjbdemceaa", sum := "f611ed4bd5db69fc4647370971e4050a5e2a573ad2e9a59e609142bb62ac243c", func := "troth/trothlaw08.PathCounts", spec := "pathCounts", apart := false }
def PathCountsSaid : Prop := pathCountsRow.holds Try.pinned (OpenSpec.ofChange pathCountsSpec)

/-- ITS FALSE NEIGHBOUR: 'it returns false'. Refute it at one input. -/
def pathCountsWrong : ChangeSpec := { name := "pathCounts", fn := fun _ => fun
  | [d] => { results := [.lit (.bool false)], args := [d] }
  | _ => none }
def PathCountsWrongFalsely : Prop := pathCountsRow.holds Try.pinned (OpenSpec.ofChange pathCountsWrong)

/-- 'trothlaw11.RecsLives': WHATEVER THE INPUT: true; the input reads as it did. -/
def recsLivesSpec : ChangeSpec := { name := "recsLives", fn := fun _ => fun
  | [d] => { results := [.lit (.bool true)], args := [d] }
  | _ => none }
def recsLivesRow : OpenClaim := { program := "ytilogpjbdemceaa", sum := "f611ed4bd5db69fc4647370971e4050a5e2a573ad2e9a59e609142bb62ac243c", func := "troth/trothlaw11.RecsLives", spec := "recsLives", apart := false }
def RecsLivesSaid : Prop := recsLivesRow.holds Try.pinned (OpenSpec.ofChange recsLivesSpec)

/-- ITS FALSE NEIGHBOUR: 'it returns false'. Refute it at one input. -/
def recsLivesWrong : ChangeSpec := { name := "recsLives", fn := fun _ => fun
  | [d] => { results := [.lit (.bool false)], args := [d] }
  | _ => none }
def RecsLivesWrongFalsely : Prop := recsLivesRow.holds Try.pinned (OpenSpec.ofChange recsLivesWrong)

/-- 'trothlaw11.RecsHeld': WHATEVER THE INPUT: true; the input reads as it did. -/
def recsHeldSpec : ChangeSpec := { name := "recsHeld", fn := fun _ => fun
  | [d] => { results := [.lit (.bool true)], args := [d] }
  | _ => none }
def recsHeldRow : OpenClaim := { program := "ytilogpjbdemceaa", sum := "f611ed4bd5db69fc4647370971e4050a5e2a573ad2e9a59e609142bb62ac243c", func := "troth/trothlaw11.RecsHeld", spec := "recsHeld", apart := false }
def RecsHeldSaid : Prop := recsHeldRow.holds Try.pinned (OpenSpec.ofChange recsHeldSpec)

/-- ITS FALSE NEIGHBOUR: 'it returns false'. Refute it at one input. -/
def recsHeldWrong : ChangeSpec := { name := "recsHeld", fn := fun _ => fun
  | [d] => { results := [.lit (.bool false)], args := [d] }
  | _ => none }
def RecsHeldWrongFalsely : Prop := recsHeldRow.holds Try.pinned (OpenSpec.ofChange recsHeldWrong)

/-- 'trothlaw11.RecsPieces': WHATEVER THE INPUT: true; the input reads as it did. -/
def recsPiecesSpec : ChangeSpec := { name := "recsPieces", fn := fun _ => fun
  | [d1, d2, d3] => { results := [.lit (.bool true)], args := [d1, d2, d3] }
  | _ => none }
def recsPiecesRow : OpenClaim := { program := "ytilogpjbdemceaa", sum := "f611ed4bd5db69fc4647370971e4050a5e2a573ad2e9a59e609142bb62ac243c", func := "troth/trothlaw11.RecsPieces", spec := "recsPieces", apart := false }
def RecsPiecesSaid : Prop := recsPiecesRow.holds Try.pinned (OpenSpec.ofChange recsPiecesSpec)

/-- ITS FALSE NEIGHBOUR: 'it returns false'. Refute it at one input. -/
def recsPiecesWrong : ChangeSpec := { name := "recsPieces", fn := fun _ => fun
  | [d1, d2, d3] => { results := [.lit (.bool false)], args := [d1, d2, d3] }
  | _ => none }
def RecsPiecesWrongFalsely : Prop := recsPiecesRow.holds Try.pinned (OpenSpec.ofChange recsPiecesWrong)

/-- 'trothlaw11.RecsWrites': WHATEVER THE INPUT: true; the input reads as it did. -/
def recsWritesSpec : ChangeSpec := { name := "recsWrites", fn := fun _ => fun
  | [d1, d2] => { results := [.lit (.bool true)], args := [d1, d2] }
  | _ => none }
def recsWritesRow : OpenClaim := { program := "ytilogpjbdemceaa", sum := "f611ed4bd5db69fc4647370971e4050a5e2a573ad2e9a59e609142bb62ac243c", func := "troth/trothlaw11.RecsWrites", spec := "recsWrites", apart := false }
def RecsWritesSaid : Prop := recsWritesRow.holds Try.pinned (OpenSpec.ofChange recsWritesSpec)

/-- ITS FALSE NEIGHBOUR: 'it returns false'. Refute it at one input. -/
def recsWritesWrong : ChangeSpec := { name := "recsWrites", fn := fun _ => fun
  | [d1, d2] => { results := [.lit (.bool false)], args := [d1, d2] }
  | _ => none }
def RecsWritesWrongFalsely : Prop := recsWritesRow.holds Try.pinned (OpenSpec.ofChange recsWritesWrong)

/- THE SECOND FORM. 'bulk': how many values and letters a reading holds, each counted each time it is reached (what is shared counts as often as it is met; a slice's spare places count too). A statement '..UptoSaid' is the law's where the arguments, and the package variables that the reading takes, are together of bulk at most 1048576: NARROWER than '..Said'. Prove '..Said' where nothing that the law and all that it calls make is longer than what came in: it says more and counts as full. Else prove '..UptoSaid'. A law counts once. -/
mutual
def uptoBulk {H : Type} : DataW H → Nat
  | .lit (.string bytes) => bytes.length + 1
  | .lit _ => 1
  | .nil => 1
  | .ptr d => uptoBulk d + 1
  | .slice elems spare => uptoBulkAll elems + uptoBulkAll spare + 1
  | .agg parts => uptoBulkAll parts + 1
  | .iface _ d => uptoBulk d + 1
  | .map entries => uptoBulkEntries entries + 1
  | .held _ => 1
def uptoBulkAll {H : Type} : List (DataW H) → Nat
  | [] => 0
  | d :: r => uptoBulk d + uptoBulkAll r
def uptoBulkEntries {H : Type} : List (Lit × DataW H) → Nat
  | [] => 0
  | x :: r => uptoBulkEntry x + uptoBulkEntries r
def uptoBulkEntry {H : Type} : Lit × DataW H → Nat
  | (.string bytes, d) => bytes.length + uptoBulk d + 1
  | (_, d) => uptoBulk d + 1
 end
def uptoSmall : (H : Type) → List (DataW H) → Bool := fun _ ds => decide (uptoBulkAll ds ≤ 1048576)
def OpenSpec.upto (s : _root_.Go.ChangeSpec) : _root_.Go.OpenSpec := { _root_.Go.OpenSpec.ofChange s with cond := some uptoSmall }

/-- 'trothlaw08.PathSent', WHERE WHAT IT READS IS OF BULK AT MOST 1048576: true; the input reads as it did. -/
def pathSentUptoRow : OpenClaim := { program := "ytilogpjbdemceaa", sum := "f611ed4bd5db69fc4647370971e4050a5e2a573ad2e9a59e609142bb62ac243c", func := "troth/trothlaw08.PathSent", spec := "pathSent", apart := false, narrowed := true }
def PathSentUptoSaid : Prop := pathSentUptoRow.holds Try.pinned (OpenSpec.upto pathSentSpec)

/-- 'trothlaw08.PathFirst', WHERE WHAT IT READS IS OF BULK AT MOST 1048576: true; the input reads as it did. -/
def pathFirstUptoRow : OpenClaim := { program := "ytilogpjbdemceaa", sum := "f611ed4bd5db69fc4647370971e4050a5e2a573ad2e9a59e609142bb62ac243c", func := "troth/trothlaw08.PathFirst", spec := "pathFirst", apart := false, narrowed := true }
def PathFirstUptoSaid : Prop := pathFirstUptoRow.holds Try.pinned (OpenSpec.upto pathFirstSpec)

/-- 'trothlaw11.RecsWhole', WHERE WHAT IT READS IS OF BULK AT MOST 1048576: true; the input reads as it did. -/
def recsWholeUptoRow : OpenClaim := { program := "ytilogpjbdemceaa", sum := "f611ed4bd5db69fc4647370971e4050a5e2a573ad2e9a59e609142bb62ac243c", func := "troth/trothlaw11.RecsWhole", spec := "recsWhole", apart := false, narrowed := true }
def RecsWholeUptoSaid : Prop := recsWholeUptoRow.holds Try.pinned (OpenSpec.upto recsWholeSpec)

/-- 'trothlaw08.PathLives', WHERE WHAT IT READS IS OF BULK AT MOST 1048576: true; the input reads as it did. -/
def pathLivesUptoRow : OpenClaim := { program := "ytilogpjbdemceaa", sum := "f611ed4bd5db69fc4647370971e4050a5e2a573ad2e9a59e609142bb62ac243c", func := "troth/trothlaw08.PathLives", spec := "pathLives", apart := false, narrowed := true }
def PathLivesUptoSaid : Prop := pathLivesUptoRow.holds Try.pinned (OpenSpec.upto pathLivesSpec)

/-- 'trothlaw08.PathNobody', WHERE WHAT IT READS IS OF BULK AT MOST 1048576: true; the input reads as it did. -/
def pathNobodyUptoRow : OpenClaim := { program := "ytilogpjbdemceaa", sum := "f611ed4bd5db69fc4647370971e4050a5e2a573ad2e9a59e609142bb62ac243c", func := "troth/trothlaw08.PathNobody", spec := "pathNobody", apart := false, narrowed := true }
def PathNobodyUptoSaid : Prop := pathNobodyUptoRow.holds Try.pinned (OpenSpec.upto pathNobodySpec)

/-- 'trothlaw08.PathCounts', WHERE WHAT IT READS IS OF BULK AT MOST 1048576: true; the input reads as it did. -/
def pathCountsUptoRow : OpenClaim := { program := "ytilogpjbdemceaa", sum := "f611ed4bd5db69fc4647370971e4050a5e2a573ad2e9a59e609142bb62ac243c", func := "troth/trothlaw08.PathCounts", spec := "pathCounts", apart := false, narrowed := true }
def PathCountsUptoSaid : Prop := pathCountsUptoRow.holds Try.pinned (OpenSpec.upto pathCountsSpec)

/-- 'trothlaw11.RecsLives', WHERE WHAT IT READS IS OF BULK AT MOST 1048576: true; the input reads as it did. -/
def recsLivesUptoRow : OpenClaim := { program := "ytilogpjbdemceaa", sum := "f611ed4bd5db69fc4647370971e4050a5e2a573ad2e9a59e609142bb62ac243c", func := "troth/trothlaw11.RecsLives", spec := "recsLives", apart := false, narrowed := true }
def RecsLivesUptoSaid : Prop := recsLivesUptoRow.holds Try.pinned (OpenSpec.upto recsLivesSpec)

/-- 'trothlaw11.RecsHeld', WHERE WHAT IT READS IS OF BULK AT MOST 1048576: true; the input reads as it did. -/
def recsHeldUptoRow : OpenClaim := { program := "ytilogpjbdemceaa", sum := "f611ed4bd5db69fc4647370971e4050a5e2a573ad2e9a59e609142bb62ac243c", func := "troth/trothlaw11.RecsHeld", spec := "recsHeld", apart := false, narrowed := true }
def RecsHeldUptoSaid : Prop := recsHeldUptoRow.holds Try.pinned (OpenSpec.upto recsHeldSpec)

/-- 'trothlaw11.RecsPieces', WHERE WHAT IT READS IS OF BULK AT MOST 1048576: true; the input reads as it did. -/
def recsPiecesUptoRow : OpenClaim := { program := "ytilogpjbdemceaa", sum := "f611ed4bd5db69fc4647370971e4050a5e2a573ad2e9a59e609142bb62ac243c", func := "troth/trothlaw11.RecsPieces", spec := "recsPieces", apart := false, narrowed := true }
def RecsPiecesUptoSaid : Prop := recsPiecesUptoRow.holds Try.pinned (OpenSpec.upto recsPiecesSpec)

/-- 'trothlaw11.RecsWrites', WHERE WHAT IT READS IS OF BULK AT MOST 1048576: true; the input reads as it did. -/
def recsWritesUptoRow : OpenClaim := { program := "ytilogpjbdemceaa", sum := "f611ed4bd5db69fc4647370971e4050a5e2a573ad2e9a59e609142bb62ac243c", func := "troth/trothlaw11.RecsWrites", spec := "recsWrites", apart := false, narrowed := true }
def RecsWritesUptoSaid : Prop := recsWritesUptoRow.holds Try.pinned (OpenSpec.upto recsWritesSpec)

end Rows
end Go.Proofs.Ytilogpjbdemceaa
