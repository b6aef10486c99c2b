/-
  No cell of these rows narrows 'for every input' (looked for: loops, veiled, ifaces, maps, wideKeys, modest, calm, conditions, laid).
  DERIVED. THE GIVEN ROWS OF THIS SEAT. 6 by the template 'for every input the law returns true; each argument reads behind the call as it read before'; 0 by the template 'total and deterministic' (their statements: YtcpkfkcemaihfaaTotals.lean).
  GIVEN WITH THE SEED: the statements are not yours to turn. If you find one false, say at which input.
  Laid BY PROGRAM, IN A SANDBOX (cutbox-rows.mjs): the forced cells as the released guide's own fill.sh prints them over the translation a2aa8f52d7503f27… (all of the seat's roots in one cut). By AI agents, Wed Nov 11 2026. No macro, syntax, notation, axiom, sorry.
-/
import Derived.Test.YtcpkfkcemaihfaaChecked
import GoSem.Claim
import GoSem.ClaimJoined
import GoSem.ClaimMapViews
import Derived.JoinedTies
import Derived.KernelRfl
namespace Go.Proofs.Ytcpkfkcemaihfaa
/- THE CELL 'sum', in the pinned program and in every row, IS THE sha256 OF THE DUMP (.gsa) THAT YtcpkfkcemaihfaaProg.lean LOADS. Nothing in Lean hashes anything: it is a label: what it is worth is what the hold of that sum in a sandbox is worth. -/
noncomputable def Try.pinned : Pinned := { name := "ytcpkfkcemaihfaa", sum := "a2aa8f52d7503f27a87bfe579c1651e40f8776f83a619165f81ed42dba9d0c6f", checked := Try.checked }
namespace Rows
def none {H : Type} : Left H := { results := [], args := [] }

/-- 'trothlaw09.SessWindow': WHATEVER THE INPUT: true; the input reads as it did. -/
def sessWindowSpec : ChangeSpec := { name := "sessWindow", fn := fun _ => fun
  | [d1, d2, d3, d4] => { results := [.lit (.bool true)], args := [d1, d2, d3, d4] }
  | _ => none }
def sessWindowRow : OpenClaim := { program := "ytcpkfkcemaihfaa", sum := "a2aa8f52d7503f27a87bfe579c1651e40f8776f83a619165f81ed42dba9d0c6f", func := "troth/trothlaw09.SessWindow", spec := "sessWindow", apart := false }
def SessWindowSaid : Prop := sessWindowRow.holds Try.pinned (OpenSpec.ofChange sessWindowSpec)

/-- ITS FALSE NEIGHBOUR: 'it returns false'. Refute it at one input. -/
def sessWindowWrong : ChangeSpec := { name := "sessWindow", fn := fun _ => fun
  | [d1, d2, d3, d4] => { results := [.lit (.bool false)], args := [d1, d2, d3, d4] }
  | _ => none }
def SessWindowWrongFalsely : Prop := sessWindowRow.holds Try.pinned (OpenSpec.ofChange sessWindowWrong)

/-- 'trothlaw09.SessLives': WHATEVER THE INPUT: true; the input reads as it did. -/
def sessLivesSpec : ChangeSpec := { name := "sessLives", fn := fun _ => fun
  | [d1, d2, d3] => { results := [.lit (.bool true)], args := [d1, d2, d3] }
  | _ => none }
def sessLivesRow : OpenClaim := { program := "ytcpkfkcemaihfaa", sum := "a2aa8f52d7503f27a87bfe579c1651e40f8776f83a619165f81ed42dba9d0c6f", func := "troth/trothlaw09.SessLives", spec := "sessLives", apart := false }
def SessLivesSaid : Prop := sessLivesRow.holds Try.pinned (OpenSpec.ofChange sessLivesSpec)

/-- ITS FALSE NEIGHBOUR: 'it returns false'. Refute it at one input. -/
def sessLivesWrong : ChangeSpec := { name := "sessLives", fn := fun _ => fun
  | [d1, d2, d3] => { results := [.lit (.bool false)], args := [d1, d2, d3] }
  | _ => none }
def SessLivesWrongFalsely : Prop := sessLivesRow.holds Try.pinned (OpenSpec.ofChange sessLivesWrong)

/-- 'trothlaw09.SessNobody': WHATEVER THE INPUT: true; the input reads as it did. -/
def sessNobodySpec : ChangeSpec := { name := "sessNobody", fn := fun _ => fun
  | [d1, d2] => { results := [.lit (.bool true)], args := [d1, d2] }
  | _ => none }
def sessNobodyRow : OpenClaim := { program := "ytcpkfkcemaihfaa", sum := "a2aa8f52d7503f27a87bfe579c1651e40f8776f83a619165f81ed42dba9d0c6f", func := "troth/trothlaw09.SessNobody", spec := "sessNobody", apart := false }
def SessNobodySaid : Prop := sessNobodyRow.holds Try.pinned (OpenSpec.ofChange sessNobodySpec)

/-- ITS FALSE NEIGHBOUR: 'it returns false'. Refute it at one input. -/
def sessNobodyWrong : ChangeSpec := { name := "sessNobody", fn := fun _ => fun
  | [d1, d2] => { results := [.lit (.bool false)], args := [d1, d2] }
  | _ => none }
def SessNobodyWrongFalsely : Prop := sessNobodyRow.holds Try.pinned (OpenSpec.ofChange sessNobodyWrong)

/-- 'trothlaw09.SessOrder': WHATEVER THE INPUT: true; the input reads as it did. -/
def sessOrderSpec : ChangeSpec := { name := "sessOrder", fn := fun _ => fun
  | [d1, d2, d3, d4] => { results := [.lit (.bool true)], args := [d1, d2, d3, d4] }
  | _ => none }
def sessOrderRow : OpenClaim := { program := "ytcpkfkcemaihfaa", sum := "a2aa8f52d7503f27a87bfe579c1651e40f8776f83a619165f81ed42dba9d0c6f", func := "troth/trothlaw09.SessOrder", spec := "sessOrder", apart := false }
def SessOrderSaid : Prop := sessOrderRow.holds Try.pinned (OpenSpec.ofChange sessOrderSpec)

/-- ITS FALSE NEIGHBOUR: 'it returns false'. Refute it at one input. -/
def sessOrderWrong : ChangeSpec := { name := "sessOrder", fn := fun _ => fun
  | [d1, d2, d3, d4] => { results := [.lit (.bool false)], args := [d1, d2, d3, d4] }
  | _ => none }
def SessOrderWrongFalsely : Prop := sessOrderRow.holds Try.pinned (OpenSpec.ofChange sessOrderWrong)

/-- 'trothlaw09.SessAll': WHATEVER THE INPUT: true; the input reads as it did. -/
def sessAllSpec : ChangeSpec := { name := "sessAll", fn := fun _ => fun
  | [d1, d2, d3, d4] => { results := [.lit (.bool true)], args := [d1, d2, d3, d4] }
  | _ => none }
def sessAllRow : OpenClaim := { program := "ytcpkfkcemaihfaa", sum := "a2aa8f52d7503f27a87bfe579c1651e40f8776f83a619165f81ed42dba9d0c6f", func := "troth/trothlaw09.SessAll", spec := "sessAll", apart := false }
def SessAllSaid : Prop := sessAllRow.holds Try.pinned (OpenSpec.ofChange sessAllSpec)

/-- ITS FALSE NEIGHBOUR: 'it returns false'. Refute it at one input. -/
def sessAllWrong : ChangeSpec := { name := "sessAll", fn := fun _ => fun
  | [d1, d2, d3, d4] => { results := [.lit (.bool false)], args := [d1, d2, d3, d4] }
  | _ => none }
def SessAllWrongFalsely : Prop := sessAllRow.holds Try.pinned (OpenSpec.ofChange sessAllWrong)

/-- 'trothlaw09.SessOther': WHATEVER THE INPUT: true; the input reads as it did. -/
def sessOtherSpec : ChangeSpec := { name := "sessOther", fn := fun _ => fun
  | [d1, d2, d3, d4] => { results := [.lit (.bool true)], args := [d1, d2, d3, d4] }
  | _ => none }
def sessOtherRow : OpenClaim := { program := "ytcpkfkcemaihfaa", sum := "a2aa8f52d7503f27a87bfe579c1651e40f8776f83a619165f81ed42dba9d0c6f", func := "troth/trothlaw09.SessOther", spec := "sessOther", apart := false }
def SessOtherSaid : Prop := sessOtherRow.holds Try.pinned (OpenSpec.ofChange sessOtherSpec)

/-- ITS FALSE NEIGHBOUR: 'it returns false'. Refute it at one input. -/
def sessOtherWrong : ChangeSpec := { name := "sessOther", fn := fun _ => fun
  | [d1, d2, d3, d4] => { results := [.lit (.bool false)], args := [d1, d2, d3, d4] }
  | _ => none }
def SessOtherWrongFalsely : Prop := sessOtherRow.holds Try.pinned (OpenSpec.ofChange sessOtherWrong)

/- THE SECOND FORM. 'bulk': how many values and letters a reading holds, each counted each time it is reached (what is shared counts as often as it is met; a slice's spare places count too). A statement '..UptoSaid' is the law's where the arguments, and the package variables that the reading takes, are together of bulk at most 1048576: NARROWER than '..Said'. Prove '..Said' where nothing that the law and all that it calls make is longer than what came in: it says more and counts as full. Else prove '..UptoSaid'. A law counts once. -/
mutual
def uptoBulk {H : Type} : DataW H → Nat
  | .lit (.string bytes) => bytes.length + 1
  | .lit _ => 1
  | .nil => 1
  | .ptr d => uptoBulk d + 1
  | .slice elems spare => uptoBulkAll elems + uptoBulkAll spare + 1
  | .agg parts => uptoBulkAll parts + 1
  | .iface _ d => uptoBulk d + 1
  | .map entries => uptoBulkEntries entries + 1
  | .held _ => 1
def uptoBulkAll {H : Type} : List (DataW H) → Nat
  | [] => 0
  | d :: r => uptoBulk d + uptoBulkAll r
def uptoBulkEntries {H : Type} : List (Lit × DataW H) → Nat
  | [] => 0
  | x :: r => uptoBulkEntry x + uptoBulkEntries r
def uptoBulkEntry {H : Type} : Lit × DataW H → Nat
  | (.string bytes, d) => bytes.length + uptoBulk d + 1
  | (_, d) => uptoBulk d + 1
 end
def uptoSmall : (H : Type) → List (DataW H) → Bool := fun _ ds => decide (uptoBulkAll ds ≤ 1048576)
def OpenSpec.upto (s : _root_.Go.ChangeSpec) : _root_.Go.OpenSpec := { _root_.Go.OpenSpec.ofChange s with cond := some uptoSmall }

/-- 'trothlaw09.SessWindow', WHERE WHAT IT READS IS OF BULK AT MOST 1048576: true; the input reads as it did. -/
def sessWindowUptoRow : OpenClaim := { program := "ytcpkfkcemaihfaa", sum := "a2aa8f52d7503f27a87bfe579c1651e40f8776f83a619165f81ed42dba9d0c6f", func := "troth/trothlaw09.SessWindow", spec := "sessWindow", apart := false, narrowed := true }
def SessWindowUptoSaid : Prop := sessWindowUptoRow.holds Try.pinned (OpenSpec.upto sessWindowSpec)

/-- 'trothlaw09.SessLives', WHERE WHAT IT READS IS OF BULK AT MOST 1048576: true; the input reads as it did. -/
def sessLivesUptoRow : OpenClaim := { program := "ytcpkfkcemaihfaa", sum := "a2aa8f52d7503f27a87bfe579c1651e40f8776f83a619165f81ed42dba9d0c6f", func := "troth/trothlaw09.SessLives", spec := "sessLives", apart := false, narrowed := true }
def SessLivesUptoSaid : Prop := sessLivesUptoRow.holds Try.pinned (OpenSpec.upto sessLivesSpec)

/-- 'trothlaw09.SessNobody', WHERE WHAT IT READS IS OF BULK AT MOST 1048576: true; the input reads as it did. -/
def sessNobodyUptoRow : OpenClaim := { program := "ytcpkfkcemaihfaa", sum := "a2aa8f52d7503f27a87bfe579c1651e40f8776f83a619165f81ed42dba9d0c6f", func := "troth/trothlaw09.SessNobody", spec := "sessNobody", apart := false, narrowed := true }
def SessNobodyUptoSaid : Prop := sessNobodyUptoRow.holds Try.pinned (OpenSpec.upto sessNobodySpec)

/-- 'trothlaw09.SessOrder', WHERE WHAT IT READS IS OF BULK AT MOST 1048576: true; the input reads as it did. -/
def sessOrderUptoRow : OpenClaim := { program := "ytcpkfkcemaihfaa", sum := "a2aa8f52d7503f27a87bfe579c1651e40f8776f83a619165f81ed42dba9d0c6f", func := "troth/trothlaw09.SessOrder", spec := "sessOrder", apart := false, narrowed := true }
def SessOrderUptoSaid : Prop := sessOrderUptoRow.holds Try.pinned (OpenSpec.upto sessOrderSpec)

/-- 'trothlaw09.SessAll', WHERE WHAT IT READS IS OF BULK AT MOST 1048576: true; the input reads as it did. -/
def sessAllUptoRow : OpenClaim := { program := "ytcpkfkcemaihfaa", sum := "a2aa8f52d7503f27a87bfe579c1651e40f8776f83a619165f81ed42dba9d0c6f", func := "troth/trothlaw09.SessAll", spec := "sessAll", apart := false, narrowed := true }
def SessAllUptoSaid : Prop := sessAllUptoRow.holds Try.pinned (OpenSpec.upto sessAllSpec)

/-- 'trothlaw09.SessOther', WHERE WHAT IT READS IS OF BULK AT MOST 1048576: true; the input reads as it did. -/
def sessOtherUptoRow : OpenClaim := { program := "ytcpkfkcemaihfaa", sum := "a2aa8f52d7503f27a87bfe579c1651e40f8776f83a619165f81ed42dba9d0c6f", func := "troth/trothlaw09.SessOther", spec := "sessOther", apart := false, narrowed := true }
def SessOtherUptoSaid : Prop := sessOtherUptoRow.holds Try.pinned (OpenSpec.upto sessOtherSpec)

end Rows
end Go.Proofs.Ytcpkfkcemaihfaa
