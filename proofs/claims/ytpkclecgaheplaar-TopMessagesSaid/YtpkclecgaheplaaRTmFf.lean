import Derived.Test.YtpkclecgaheplaaRTmFd
import Derived.Test.YtpkclecgaheplaaRTmFe
import Derived.Test.YtpkclecgaheplaaRFrameN
namespace Go.Proofs.YtpkclecgaheplaaR.Oct
open Go.RowKit Go.Proofs.YtpkclecgaheplaaRW.PrintWords Go.Proofs.YtpkclecgaheplaaR.M
set_option linter.unusedVariables false
set_option linter.unusedSimpArgs false
theorem fread_calls (w : World) (A : Option Addr) (c : Nat) (b : List Int) (hr : Kd.C (Kd.int .u8) w A b.length b) (hx : Bytes b) (hc : b.length ≤ c) : Calls Try.prog 10 #[.slice A b.length c] w (RetFR w (readF b)) := by
  by_cases h1 : b.length < 14
  · exact fread_tiny w A c b h1
  · by_cases h2 : b.length = 14 + lenAt b
    · by_cases hs : getF (b.drop (10 + lenAt b)) = sumOf (b.take (10 + lenAt b))
      · exact fread_okay w A c b hr hx hc (by omega) h2 hs
      · exact fread_unsum w A c b hr hx hc (by omega) h2 hs
    · exact fread_short w A c b hr hx hc (by omega) (by omega)
end Go.Proofs.YtpkclecgaheplaaR.Oct
