/-
  No cell of these rows narrows 'for every input' (looked for: loops, veiled, ifaces, maps, wideKeys, modest, calm, conditions, laid).
  DERIVED. THE GIVEN ROWS OF THIS SEAT. 8 by the template 'for every input the law returns true; each argument reads behind the call as it read before'; 0 by the template 'total and deterministic' (their statements: YtcnohnieoecpdaaTotals.lean).
  GIVEN WITH THE SEED: the statements are not yours to turn. If you find one false, say at which input.
  Laid BY PROGRAM, IN A SANDBOX (cutbox-rows.mjs): the forced cells as the released guide's own fill.sh prints them over the translation 4adbf5d823f3ab94… (all of the seat's roots in one cut). By AI agents, Wed Nov 11 2026. No macro, syntax, notation, axiom, sorry.
-/
import Derived.Test.YtcnohnieoecpdaaChecked
import GoSem.Claim
import GoSem.ClaimJoined
import GoSem.ClaimMapViews
import Derived.JoinedTies
import Derived.KernelRfl
namespace Go.Proofs.Ytcnohnieoecpdaa
/- THE CELL 'sum', in the pinned program and in every row, IS THE sha256 OF THE DUMP (.gsa) THAT YtcnohnieoecpdaaProg.lean LOADS. Nothing in Lean hashes anything: it is a label: what it is worth is what the hold of that sum in a sandbox is worth. -/
noncomputable def Try.pinned : Pinned := { name := "ytcnohnieoecpdaa", sum := "4adbf5d823f3ab9420b1234dee66f1dfbcb27d6c6ac2d240466fbacf606e660b", checked := Try.checked }
namespace Rows
def none {H : Type} : Left H := { results := [], args := [] }

/-- 'trothlaw03.WalWrites': WHATEVER THE INPUT: true; the input reads as it did. -/
def walWritesSpec : ChangeSpec := { name := "walWrites", fn := fun _ => fun
  | [d1, d2] => { results := [.lit (.bool true)], args := [d1, d2] }
  | _ => none }
def walWritesRow : OpenClaim := { program := "ytcnohnieoecpdaa", sum := "4adbf5d823f3ab9420b1234dee66f1dfbcb27d6c6ac2d240466fbacf606e660b", func := "troth/trothlaw03.WalWrites", spec := "walWrites", unfollowed := true, recurses := true, apart := false }
def WalWritesSaid : Prop := walWritesRow.holds Try.pinned (OpenSpec.ofChange walWritesSpec)

/-- ITS FALSE NEIGHBOUR: 'it returns false'. Refute it at one input. -/
def walWritesWrong : ChangeSpec := { name := "walWrites", fn := fun _ => fun
  | [d1, d2] => { results := [.lit (.bool false)], args := [d1, d2] }
  | _ => none }
def WalWritesWrongFalsely : Prop := walWritesRow.holds Try.pinned (OpenSpec.ofChange walWritesWrong)

/-- 'trothlaw03.WalBack': WHATEVER THE INPUT: true; the input reads as it did. -/
def walBackSpec : ChangeSpec := { name := "walBack", fn := fun _ => fun
  | [d1, d2] => { results := [.lit (.bool true)], args := [d1, d2] }
  | _ => none }
def walBackRow : OpenClaim := { program := "ytcnohnieoecpdaa", sum := "4adbf5d823f3ab9420b1234dee66f1dfbcb27d6c6ac2d240466fbacf606e660b", func := "troth/trothlaw03.WalBack", spec := "walBack", unfollowed := true, recurses := true, apart := false }
def WalBackSaid : Prop := walBackRow.holds Try.pinned (OpenSpec.ofChange walBackSpec)

/-- ITS FALSE NEIGHBOUR: 'it returns false'. Refute it at one input. -/
def walBackWrong : ChangeSpec := { name := "walBack", fn := fun _ => fun
  | [d1, d2] => { results := [.lit (.bool false)], args := [d1, d2] }
  | _ => none }
def WalBackWrongFalsely : Prop := walBackRow.holds Try.pinned (OpenSpec.ofChange walBackWrong)

/-- 'trothlaw03.WalTurned': WHATEVER THE INPUT: true; the input reads as it did. -/
def walTurnedSpec : ChangeSpec := { name := "walTurned", fn := fun _ => fun
  | [d1, d2, d3, d4] => { results := [.lit (.bool true)], args := [d1, d2, d3, d4] }
  | _ => none }
def walTurnedRow : OpenClaim := { program := "ytcnohnieoecpdaa", sum := "4adbf5d823f3ab9420b1234dee66f1dfbcb27d6c6ac2d240466fbacf606e660b", func := "troth/trothlaw03.WalTurned", spec := "walTurned", unfollowed := true, recurses := true, apart := false }
def WalTurnedSaid : Prop := walTurnedRow.holds Try.pinned (OpenSpec.ofChange walTurnedSpec)

/-- ITS FALSE NEIGHBOUR: 'it returns false'. Refute it at one input. -/
def walTurnedWrong : ChangeSpec := { name := "walTurned", fn := fun _ => fun
  | [d1, d2, d3, d4] => { results := [.lit (.bool false)], args := [d1, d2, d3, d4] }
  | _ => none }
def WalTurnedWrongFalsely : Prop := walTurnedRow.holds Try.pinned (OpenSpec.ofChange walTurnedWrong)

/-- 'trothlaw03.WalTwice': WHATEVER THE INPUT: true; the input reads as it did. -/
def walTwiceSpec : ChangeSpec := { name := "walTwice", fn := fun _ => fun
  | [d] => { results := [.lit (.bool true)], args := [d] }
  | _ => none }
def walTwiceRow : OpenClaim := { program := "ytcnohnieoecpdaa", sum := "4adbf5d823f3ab9420b1234dee66f1dfbcb27d6c6ac2d240466fbacf606e660b", func := "troth/trothlaw03.WalTwice", spec := "walTwice", unfollowed := true, recurses := true, apart := false }
def WalTwiceSaid : Prop := walTwiceRow.holds Try.pinned (OpenSpec.ofChange walTwiceSpec)

/-- ITS FALSE NEIGHBOUR: 'it returns false'. Refute it at one input. -/
def walTwiceWrong : ChangeSpec := { name := "walTwice", fn := fun _ => fun
  | [d] => { results := [.lit (.bool false)], args := [d] }
  | _ => none }
def WalTwiceWrongFalsely : Prop := walTwiceRow.holds Try.pinned (OpenSpec.ofChange walTwiceWrong)

/-- 'trothlaw03.WalFound': WHATEVER THE INPUT: true; the input reads as it did. -/
def walFoundSpec : ChangeSpec := { name := "walFound", fn := fun _ => fun
  | [d1, d2, d3] => { results := [.lit (.bool true)], args := [d1, d2, d3] }
  | _ => none }
def walFoundRow : OpenClaim := { program := "ytcnohnieoecpdaa", sum := "4adbf5d823f3ab9420b1234dee66f1dfbcb27d6c6ac2d240466fbacf606e660b", func := "troth/trothlaw03.WalFound", spec := "walFound", unfollowed := true, recurses := true, apart := false }
def WalFoundSaid : Prop := walFoundRow.holds Try.pinned (OpenSpec.ofChange walFoundSpec)

/-- ITS FALSE NEIGHBOUR: 'it returns false'. Refute it at one input. -/
def walFoundWrong : ChangeSpec := { name := "walFound", fn := fun _ => fun
  | [d1, d2, d3] => { results := [.lit (.bool false)], args := [d1, d2, d3] }
  | _ => none }
def WalFoundWrongFalsely : Prop := walFoundRow.holds Try.pinned (OpenSpec.ofChange walFoundWrong)

/-- 'trothlaw03.WalNobody': WHATEVER THE INPUT: true; the input reads as it did. -/
def walNobodySpec : ChangeSpec := { name := "walNobody", fn := fun _ => fun
  | [d1, d2] => { results := [.lit (.bool true)], args := [d1, d2] }
  | _ => none }
def walNobodyRow : OpenClaim := { program := "ytcnohnieoecpdaa", sum := "4adbf5d823f3ab9420b1234dee66f1dfbcb27d6c6ac2d240466fbacf606e660b", func := "troth/trothlaw03.WalNobody", spec := "walNobody", unfollowed := true, recurses := true, apart := false }
def WalNobodySaid : Prop := walNobodyRow.holds Try.pinned (OpenSpec.ofChange walNobodySpec)

/-- ITS FALSE NEIGHBOUR: 'it returns false'. Refute it at one input. -/
def walNobodyWrong : ChangeSpec := { name := "walNobody", fn := fun _ => fun
  | [d1, d2] => { results := [.lit (.bool false)], args := [d1, d2] }
  | _ => none }
def WalNobodyWrongFalsely : Prop := walNobodyRow.holds Try.pinned (OpenSpec.ofChange walNobodyWrong)

/-- 'trothlaw03.WalSwaps': WHATEVER THE INPUT: true; the input reads as it did. -/
def walSwapsSpec : ChangeSpec := { name := "walSwaps", fn := fun _ => fun
  | [d1, d2, d3] => { results := [.lit (.bool true)], args := [d1, d2, d3] }
  | _ => none }
def walSwapsRow : OpenClaim := { program := "ytcnohnieoecpdaa", sum := "4adbf5d823f3ab9420b1234dee66f1dfbcb27d6c6ac2d240466fbacf606e660b", func := "troth/trothlaw03.WalSwaps", spec := "walSwaps", unfollowed := true, recurses := true, apart := false }
def WalSwapsSaid : Prop := walSwapsRow.holds Try.pinned (OpenSpec.ofChange walSwapsSpec)

/-- ITS FALSE NEIGHBOUR: 'it returns false'. Refute it at one input. -/
def walSwapsWrong : ChangeSpec := { name := "walSwaps", fn := fun _ => fun
  | [d1, d2, d3] => { results := [.lit (.bool false)], args := [d1, d2, d3] }
  | _ => none }
def WalSwapsWrongFalsely : Prop := walSwapsRow.holds Try.pinned (OpenSpec.ofChange walSwapsWrong)

/-- 'trothlaw03.WalLives': WHATEVER THE INPUT: true; the input reads as it did. -/
def walLivesSpec : ChangeSpec := { name := "walLives", fn := fun _ => fun
  | [d1, d2, d3] => { results := [.lit (.bool true)], args := [d1, d2, d3] }
  | _ => none }
def walLivesRow : OpenClaim := { program := "ytcnohnieoecpdaa", sum := "4adbf5d823f3ab9420b1234dee66f1dfbcb27d6c6ac2d240466fbacf606e660b", func := "troth/trothlaw03.WalLives", spec := "walLives", unfollowed := true, recurses := true, apart := false }
def WalLivesSaid : Prop := walLivesRow.holds Try.pinned (OpenSpec.ofChange walLivesSpec)

/-- ITS FALSE NEIGHBOUR: 'it returns false'. Refute it at one input. -/
def walLivesWrong : ChangeSpec := { name := "walLives", fn := fun _ => fun
  | [d1, d2, d3] => { results := [.lit (.bool false)], args := [d1, d2, d3] }
  | _ => none }
def WalLivesWrongFalsely : Prop := walLivesRow.holds Try.pinned (OpenSpec.ofChange walLivesWrong)

/- THE SECOND FORM. 'bulk': how many values and letters a reading holds, each counted each time it is reached (what is shared counts as often as it is met; a slice's spare places count too). A statement '..UptoSaid' is the law's where the arguments, and the package variables that the reading takes, are together of bulk at most 1048576: NARROWER than '..Said'. Prove '..Said' where nothing that the law and all that it calls make is longer than what came in: it says more and counts as full. Else prove '..UptoSaid'. A law counts once. -/
mutual
def uptoBulk {H : Type} : DataW H → Nat
  | .lit (.string bytes) => bytes.length + 1
  | .lit _ => 1
  | .nil => 1
  | .ptr d => uptoBulk d + 1
  | .slice elems spare => uptoBulkAll elems + uptoBulkAll spare + 1
  | .agg parts => uptoBulkAll parts + 1
  | .iface _ d => uptoBulk d + 1
  | .map entries => uptoBulkEntries entries + 1
  | .held _ => 1
def uptoBulkAll {H : Type} : List (DataW H) → Nat
  | [] => 0
  | d :: r => uptoBulk d + uptoBulkAll r
def uptoBulkEntries {H : Type} : List (Lit × DataW H) → Nat
  | [] => 0
  | x :: r => uptoBulkEntry x + uptoBulkEntries r
def uptoBulkEntry {H : Type} : Lit × DataW H → Nat
  | (.string bytes, d) => bytes.length + uptoBulk d + 1
  | (_, d) => uptoBulk d + 1
 end
def uptoSmall : (H : Type) → List (DataW H) → Bool := fun _ ds => decide (uptoBulkAll ds ≤ 1048576)
def OpenSpec.upto (s : _root_.Go.ChangeSpec) : _root_.Go.OpenSpec := { _root_.Go.OpenSpec.ofChange s with cond := some uptoSmall }

/-- 'trothlaw03.WalWrites', WHERE WHAT IT READS IS OF BULK AT MOST 1048576: true; the input reads as it did. -/
def walWritesUptoRow : OpenClaim := { program := "ytcnohnieoecpdaa", sum := "4adbf5d823f3ab9420b1234dee66f1dfbcb27d6c6ac2d240466fbacf606e660b", func := "troth/trothlaw03.WalWrites", spec := "walWrites", unfollowed := true, recurses := true, apart := false, narrowed := true }
def WalWritesUptoSaid : Prop := walWritesUptoRow.holds Try.pinned (OpenSpec.upto walWritesSpec)

/-- 'trothlaw03.WalBack', WHERE WHAT IT READS IS OF BULK AT MOST 1048576: true; the input reads as it did. -/
def walBackUptoRow : OpenClaim := { program := "ytcnohnieoecpdaa", sum := "4adbf5d823f3ab9420b1234dee66f1dfbcb27d6c6ac2d240466fbacf606e660b", func := "troth/trothlaw03.WalBack", spec := "walBack", unfollowed := true, recurses := true, apart := false, narrowed := true }
def WalBackUptoSaid : Prop := walBackUptoRow.holds Try.pinned (OpenSpec.upto walBackSpec)

/-- 'trothlaw03.WalTurned', WHERE WHAT IT READS IS OF BULK AT MOST 1048576: true; the input reads as it did. -/
def walTurnedUptoRow : OpenClaim := { program := "ytcnohnieoecpdaa", sum := "4adbf5d823f3ab9420b1234dee66f1dfbcb27d6c6ac2d240466fbacf606e660b", func := "troth/trothlaw03.WalTurned", spec := "walTurned", unfollowed := true, recurses := true, apart := false, narrowed := true }
def WalTurnedUptoSaid : Prop := walTurnedUptoRow.holds Try.pinned (OpenSpec.upto walTurnedSpec)

/-- 'trothlaw03.WalTwice', WHERE WHAT IT READS IS OF BULK AT MOST 1048576: true; the input reads as it did. -/
def walTwiceUptoRow : OpenClaim := { program := "ytcnohnieoecpdaa", sum := "4adbf5d823f3ab9420b1234dee66f1dfbcb27d6c6ac2d240466fbacf606e660b", func := "troth/trothlaw03.WalTwice", spec := "walTwice", unfollowed := true, recurses := true, apart := false, narrowed := true }
def WalTwiceUptoSaid : Prop := walTwiceUptoRow.holds Try.pinned (OpenSpec.upto walTwiceSpec)

/-- 'trothlaw03.WalFound', WHERE WHAT IT READS IS OF BULK AT MOST 1048576: true; the input reads as it did. -/
def walFoundUptoRow : OpenClaim := { program := "ytcnohnieoecpdaa", sum := "4adbf5d823f3ab9420b1234dee66f1dfbcb27d6c6ac2d240466fbacf606e660b", func := "troth/trothlaw03.WalFound", spec := "walFound", unfollowed := true, recurses := true, apart := false, narrowed := true }
def WalFoundUptoSaid : Prop := walFoundUptoRow.holds Try.pinned (OpenSpec.upto walFoundSpec)

/-- 'trothlaw03.WalNobody', WHERE WHAT IT READS IS OF BULK AT MOST 1048576: true; the input reads as it did. -/
def walNobodyUptoRow : OpenClaim := { program := "ytcnohnieoecpdaa", sum := "4adbf5d823f3ab9420b1234dee66f1dfbcb27d6c6ac2d240466fbacf606e660b", func := "troth/trothlaw03.WalNobody", spec := "walNobody", unfollowed := true, recurses := true, apart := false, narrowed := true }
def WalNobodyUptoSaid : Prop := walNobodyUptoRow.holds Try.pinned (OpenSpec.upto walNobodySpec)

/-- 'trothlaw03.WalSwaps', WHERE WHAT IT READS IS OF BULK AT MOST 1048576: true; the input reads as it did. -/
def walSwapsUptoRow : OpenClaim := { program := "ytcnohnieoecpdaa", sum := "4adbf5d823f3ab9420b1234dee66f1dfbcb27d6c6ac2d240466fbacf606e660b", func := "troth/trothlaw03.WalSwaps", spec := "walSwaps", unfollowed := true, recurses := true, apart := false, narrowed := true }
def WalSwapsUptoSaid : Prop := walSwapsUptoRow.holds Try.pinned (OpenSpec.upto walSwapsSpec)

/-- 'trothlaw03.WalLives', WHERE WHAT IT READS IS OF BULK AT MOST 1048576: true; the input reads as it did. -/
def walLivesUptoRow : OpenClaim := { program := "ytcnohnieoecpdaa", sum := "4adbf5d823f3ab9420b1234dee66f1dfbcb27d6c6ac2d240466fbacf606e660b", func := "troth/trothlaw03.WalLives", spec := "walLives", unfollowed := true, recurses := true, apart := false, narrowed := true }
def WalLivesUptoSaid : Prop := walLivesUptoRow.holds Try.pinned (OpenSpec.upto walLivesSpec)

end Rows
end Go.Proofs.Ytcnohnieoecpdaa
