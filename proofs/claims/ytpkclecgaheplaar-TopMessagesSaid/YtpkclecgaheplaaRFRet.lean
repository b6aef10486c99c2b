import Derived.Test.YtpkclecgaheplaaRMem
namespace Go.Proofs.YtpkclecgaheplaaR.Oct
open Go.RowKit Go.Proofs.YtpkclecgaheplaaRW.PrintWords Go.Proofs.YtpkclecgaheplaaR.M
/-- what Put tells -/
def RetPut (w : World) (v n : Int) (e : Ending) (w' : World) : Prop := ∃ r, e = .returned (.tuple #[r, .int .i64 (putM v n).2]) ∧ OB w' w.heap.size r (putM v n).1 ∧ Below w.heap.size w w'
end Go.Proofs.YtpkclecgaheplaaR.Oct
