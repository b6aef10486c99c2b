/-
  No cell of these rows narrows 'for every input' (looked for: loops, veiled, ifaces, maps, wideKeys, modest, calm, conditions, laid).
  DERIVED. THE GIVEN ROWS OF THIS SEAT. 6 by the template 'for every input the law returns true; each argument reads behind the call as it read before'; 0 by the template 'total and deterministic' (their statements: YtcicehldhelmbaaTotals.lean).
  GIVEN WITH THE SEED: the statements are not yours to turn. If you find one false, say at which input.
  Laid BY PROGRAM, IN A SANDBOX (cutbox-rows.mjs): the forced cells as the released guide's own fill.sh prints them over the translation 8e714fc11a497e6d… (all of the seat's roots in one cut). By AI agents, Wed Nov 11 2026. No macro, syntax, notation, axiom, sorry.
-/
import Derived.Test.YtcicehldhelmbaaChecked
import GoSem.Claim
import GoSem.ClaimJoined
import GoSem.ClaimMapViews
import Derived.JoinedTies
import Derived.KernelRfl
namespace Go.Proofs.Ytcicehldhelmbaa
/- THE CELL 'sum', in the pinned program and in every row, IS THE sha256 OF THE DUMP (.gsa) THAT YtcicehldhelmbaaProg.lean LOADS. Nothing in Lean hashes anything: it is a label: what it is worth is what the hold of that sum in a sandbox is worth. -/
noncomputable def Try.pinned : Pinned := { name := "ytcicehldhelmbaa", sum := "8e714fc11a497e6de7e6cada297fccc769e9173de20c7d2ee7068af11e2b983c", checked := Try.checked }
namespace Rows
def none {H : Type} : Left H := { results := [], args := [] }

/-- 'trothlaw02.TapeLives': WHATEVER THE INPUT: true; the input reads as it did. -/
def tapeLivesSpec : ChangeSpec := { name := "tapeLives", fn := fun _ => fun
  | [d1, d2] => { results := [.lit (.bool true)], args := [d1, d2] }
  | _ => none }
def tapeLivesRow : OpenClaim := { program := "ytcicehldhelmbaa", sum := "8e714fc11a497e6de7e6cada297fccc769e9173de20c7d2ee7068af11e2b983c", func := "troth/trothlaw02.TapeLives", spec := "tapeLives", apart := false }
def TapeLivesSaid : Prop := tapeLivesRow.holds Try.pinned (OpenSpec.ofChange tapeLivesSpec)

/-- ITS FALSE NEIGHBOUR: 'it returns false'. Refute it at one input. -/
def tapeLivesWrong : ChangeSpec := { name := "tapeLives", fn := fun _ => fun
  | [d1, d2] => { results := [.lit (.bool false)], args := [d1, d2] }
  | _ => none }
def TapeLivesWrongFalsely : Prop := tapeLivesRow.holds Try.pinned (OpenSpec.ofChange tapeLivesWrong)

/-- 'trothlaw02.TapeNobody': WHATEVER THE INPUT: true; the input reads as it did. -/
def tapeNobodySpec : ChangeSpec := { name := "tapeNobody", fn := fun _ => fun
  | [d] => { results := [.lit (.bool true)], args := [d] }
  | _ => none }
def tapeNobodyRow : OpenClaim := { program := "ytcicehldhelmbaa", sum := "8e714fc11a497e6de7e6cada297fccc769e9173de20c7d2ee7068af11e2b983c", func := "troth/trothlaw02.TapeNobody", spec := "tapeNobody", apart := false }
def TapeNobodySaid : Prop := tapeNobodyRow.holds Try.pinned (OpenSpec.ofChange tapeNobodySpec)

/-- ITS FALSE NEIGHBOUR: 'it returns false'. Refute it at one input. -/
def tapeNobodyWrong : ChangeSpec := { name := "tapeNobody", fn := fun _ => fun
  | [d] => { results := [.lit (.bool false)], args := [d] }
  | _ => none }
def TapeNobodyWrongFalsely : Prop := tapeNobodyRow.holds Try.pinned (OpenSpec.ofChange tapeNobodyWrong)

/-- 'trothlaw02.TapeLasts': WHATEVER THE INPUT: true; the input reads as it did. -/
def tapeLastsSpec : ChangeSpec := { name := "tapeLasts", fn := fun _ => fun
  | [d1, d2, d3] => { results := [.lit (.bool true)], args := [d1, d2, d3] }
  | _ => none }
def tapeLastsRow : OpenClaim := { program := "ytcicehldhelmbaa", sum := "8e714fc11a497e6de7e6cada297fccc769e9173de20c7d2ee7068af11e2b983c", func := "troth/trothlaw02.TapeLasts", spec := "tapeLasts", apart := false }
def TapeLastsSaid : Prop := tapeLastsRow.holds Try.pinned (OpenSpec.ofChange tapeLastsSpec)

/-- ITS FALSE NEIGHBOUR: 'it returns false'. Refute it at one input. -/
def tapeLastsWrong : ChangeSpec := { name := "tapeLasts", fn := fun _ => fun
  | [d1, d2, d3] => { results := [.lit (.bool false)], args := [d1, d2, d3] }
  | _ => none }
def TapeLastsWrongFalsely : Prop := tapeLastsRow.holds Try.pinned (OpenSpec.ofChange tapeLastsWrong)

/-- 'trothlaw02.TapeTwice': WHATEVER THE INPUT: true; the input reads as it did. -/
def tapeTwiceSpec : ChangeSpec := { name := "tapeTwice", fn := fun _ => fun
  | [d1, d2, d3, d4] => { results := [.lit (.bool true)], args := [d1, d2, d3, d4] }
  | _ => none }
def tapeTwiceRow : OpenClaim := { program := "ytcicehldhelmbaa", sum := "8e714fc11a497e6de7e6cada297fccc769e9173de20c7d2ee7068af11e2b983c", func := "troth/trothlaw02.TapeTwice", spec := "tapeTwice", apart := false }
def TapeTwiceSaid : Prop := tapeTwiceRow.holds Try.pinned (OpenSpec.ofChange tapeTwiceSpec)

/-- ITS FALSE NEIGHBOUR: 'it returns false'. Refute it at one input. -/
def tapeTwiceWrong : ChangeSpec := { name := "tapeTwice", fn := fun _ => fun
  | [d1, d2, d3, d4] => { results := [.lit (.bool false)], args := [d1, d2, d3, d4] }
  | _ => none }
def TapeTwiceWrongFalsely : Prop := tapeTwiceRow.holds Try.pinned (OpenSpec.ofChange tapeTwiceWrong)

/-- 'trothlaw02.TapeBounds': WHATEVER THE INPUT: true; the input reads as it did. -/
def tapeBoundsSpec : ChangeSpec := { name := "tapeBounds", fn := fun _ => fun
  | [d1, d2, d3] => { results := [.lit (.bool true)], args := [d1, d2, d3] }
  | _ => none }
def tapeBoundsRow : OpenClaim := { program := "ytcicehldhelmbaa", sum := "8e714fc11a497e6de7e6cada297fccc769e9173de20c7d2ee7068af11e2b983c", func := "troth/trothlaw02.TapeBounds", spec := "tapeBounds", apart := false }
def TapeBoundsSaid : Prop := tapeBoundsRow.holds Try.pinned (OpenSpec.ofChange tapeBoundsSpec)

/-- ITS FALSE NEIGHBOUR: 'it returns false'. Refute it at one input. -/
def tapeBoundsWrong : ChangeSpec := { name := "tapeBounds", fn := fun _ => fun
  | [d1, d2, d3] => { results := [.lit (.bool false)], args := [d1, d2, d3] }
  | _ => none }
def TapeBoundsWrongFalsely : Prop := tapeBoundsRow.holds Try.pinned (OpenSpec.ofChange tapeBoundsWrong)

/-- 'trothlaw02.TapeParts': WHATEVER THE INPUT: true; the input reads as it did. -/
def tapePartsSpec : ChangeSpec := { name := "tapeParts", fn := fun _ => fun
  | [d1, d2, d3, d4] => { results := [.lit (.bool true)], args := [d1, d2, d3, d4] }
  | _ => none }
def tapePartsRow : OpenClaim := { program := "ytcicehldhelmbaa", sum := "8e714fc11a497e6de7e6cada297fccc769e9173de20c7d2ee7068af11e2b983c", func := "troth/trothlaw02.TapeParts", spec := "tapeParts", apart := false }
def TapePartsSaid : Prop := tapePartsRow.holds Try.pinned (OpenSpec.ofChange tapePartsSpec)

/-- ITS FALSE NEIGHBOUR: 'it returns false'. Refute it at one input. -/
def tapePartsWrong : ChangeSpec := { name := "tapeParts", fn := fun _ => fun
  | [d1, d2, d3, d4] => { results := [.lit (.bool false)], args := [d1, d2, d3, d4] }
  | _ => none }
def TapePartsWrongFalsely : Prop := tapePartsRow.holds Try.pinned (OpenSpec.ofChange tapePartsWrong)

/- THE SECOND FORM. 'bulk': how many values and letters a reading holds, each counted each time it is reached (what is shared counts as often as it is met; a slice's spare places count too). A statement '..UptoSaid' is the law's where the arguments, and the package variables that the reading takes, are together of bulk at most 1048576: NARROWER than '..Said'. Prove '..Said' where nothing that the law and all that it calls make is longer than what came in: it says more and counts as full. Else prove '..UptoSaid'. A law counts once. -/
mutual
def uptoBulk {H : Type} : DataW H → Nat
  | .lit (.string bytes) => bytes.length + 1
  | .lit _ => 1
  | .nil => 1
  | .ptr d => uptoBulk d + 1
  | .slice elems spare => uptoBulkAll elems + uptoBulkAll spare + 1
  | .agg parts => uptoBulkAll parts + 1
  | .iface _ d => uptoBulk d + 1
  | .map entries => uptoBulkEntries entries + 1
  | .held _ => 1
def uptoBulkAll {H : Type} : List (DataW H) → Nat
  | [] => 0
  | d :: r => uptoBulk d + uptoBulkAll r
def uptoBulkEntries {H : Type} : List (Lit × DataW H) → Nat
  | [] => 0
  | x :: r => uptoBulkEntry x + uptoBulkEntries r
def uptoBulkEntry {H : Type} : Lit × DataW H → Nat
  | (.string bytes, d) => bytes.length + uptoBulk d + 1
  | (_, d) => uptoBulk d + 1
 end
def uptoSmall : (H : Type) → List (DataW H) → Bool := fun _ ds => decide (uptoBulkAll ds ≤ 1048576)
def OpenSpec.upto (s : _root_.Go.ChangeSpec) : _root_.Go.OpenSpec := { _root_.Go.OpenSpec.ofChange s with cond := some uptoSmall }

/-- 'trothlaw02.TapeLives', WHERE WHAT IT READS IS OF BULK AT MOST 1048576: true; the input reads as it did. -/
def tapeLivesUptoRow : OpenClaim := { program := "ytcicehldhelmbaa", sum := "8e714fc11a497e6de7e6cada297fccc769e9173de20c7d2ee7068af11e2b983c", func := "troth/trothlaw02.TapeLives", spec := "tapeLives", apart := false, narrowed := true }
def TapeLivesUptoSaid : Prop := tapeLivesUptoRow.holds Try.pinned (OpenSpec.upto tapeLivesSpec)

/-- 'trothlaw02.TapeNobody', WHERE WHAT IT READS IS OF BULK AT MOST 1048576: true; the input reads as it did. -/
def tapeNobodyUptoRow : OpenClaim := { program := "ytcicehldhelmbaa", sum := "8e714fc11a497e6de7e6cada297fccc769e9173de20c7d2ee7068af11e2b983c", func := "troth/trothlaw02.TapeNobody", spec := "tapeNobody", apart := false, narrowed := true }
def TapeNobodyUptoSaid : Prop := tapeNobodyUptoRow.holds Try.pinned (OpenSpec.upto tapeNobodySpec)

/-- 'trothlaw02.TapeLasts', WHERE WHAT IT READS IS OF BULK AT MOST 1048576: true; the input reads as it did. -/
def tapeLastsUptoRow : OpenClaim := { program := "ytcicehldhelmbaa", sum := "8e714fc11a497e6de7e6cada297fccc769e9173de20c7d2ee7068af11e2b983c", func := "troth/trothlaw02.TapeLasts", spec := "tapeLasts", apart := false, narrowed := true }
def TapeLastsUptoSaid : Prop := tapeLastsUptoRow.holds Try.pinned (OpenSpec.upto tapeLastsSpec)

/-- 'trothlaw02.TapeTwice', WHERE WHAT IT READS IS OF BULK AT MOST 1048576: true; the input reads as it did. -/
def tapeTwiceUptoRow : OpenClaim := { program := "ytcicehldhelmbaa", sum := "8e714fc11a497e6de7e6cada297fccc769e9173de20c7d2ee7068af11e2b983c", func := "troth/trothlaw02.TapeTwice", spec := "tapeTwice", apart := false, narrowed := true }
def TapeTwiceUptoSaid : Prop := tapeTwiceUptoRow.holds Try.pinned (OpenSpec.upto tapeTwiceSpec)

/-- 'trothlaw02.TapeBounds', WHERE WHAT IT READS IS OF BULK AT MOST 1048576: true; the input reads as it did. -/
def tapeBoundsUptoRow : OpenClaim := { program := "ytcicehldhelmbaa", sum := "8e714fc11a497e6de7e6cada297fccc769e9173de20c7d2ee7068af11e2b983c", func := "troth/trothlaw02.TapeBounds", spec := "tapeBounds", apart := false, narrowed := true }
def TapeBoundsUptoSaid : Prop := tapeBoundsUptoRow.holds Try.pinned (OpenSpec.upto tapeBoundsSpec)

/-- 'trothlaw02.TapeParts', WHERE WHAT IT READS IS OF BULK AT MOST 1048576: true; the input reads as it did. -/
def tapePartsUptoRow : OpenClaim := { program := "ytcicehldhelmbaa", sum := "8e714fc11a497e6de7e6cada297fccc769e9173de20c7d2ee7068af11e2b983c", func := "troth/trothlaw02.TapeParts", spec := "tapeParts", apart := false, narrowed := true }
def TapePartsUptoSaid : Prop := tapePartsUptoRow.holds Try.pinned (OpenSpec.upto tapePartsSpec)

end Rows
end Go.Proofs.Ytcicehldhelmbaa
