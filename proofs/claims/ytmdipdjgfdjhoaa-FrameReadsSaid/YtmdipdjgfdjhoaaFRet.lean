import Derived.Test.YtmdipdjgfdjhoaaMem
namespace Go.Proofs.Ytmdipdjgfdjhoaa.Oct
open Go.RowKit Go.Proofs.YtmdipdjgfdjhoaaW.PrintWords Go.Proofs.Ytmdipdjgfdjhoaa.M
/-- what Put tells -/
def RetPut (w : World) (v n : Int) (e : Ending) (w' : World) : Prop := ∃ r, e = .returned (.tuple #[r, .int .i64 (putM v n).2]) ∧ OB w' w.heap.size r (putM v n).1 ∧ Below w.heap.size w w'
end Go.Proofs.Ytmdipdjgfdjhoaa.Oct
