import Derived.Test.YtcpkfkcemaihfaaMem
namespace Go.Proofs.Ytcpkfkcemaihfaa.Oct
open Go.RowKit Go.Proofs.YtcpkfkcemaihfaaW.PrintWords Go.Proofs.Ytcpkfkcemaihfaa.M
set_option linter.unusedVariables false
set_option linter.unusedSimpArgs false

set_option maxHeartbeats 400000 in
theorem copy_calls (w : World) (A : Option Addr) (c : Nat) (xs : List Int) (hr : Kd.C (Kd.int .u8) w A xs.length xs) (hlen : xs.length ≤ 140737488355328) :
    Calls Try.prog 18 #[.slice A xs.length c] w fun e w' => ∃ v, e = .returned v ∧ OB w' w.heap.size v xs ∧ Below w.heap.size w w' := by
  have HR := Aside0.mk hr
  clear hr
  go_enter Try.func18, Try.ntmps18
  go_wp2_with (at_builtin; refine app_bytes (W0 := w) w.heap.size rfl (.tmp 4) (.tmp 5) rfl (.slice none 0 0) [] xs A xs.length c rfl rfl (OB.nil _ _) HR.out (Below.refl _ _) (Nat.le_refl _) ?aL ?_; (case aL => simpa using hlen); intro v1 w1 ho hb _ _; rw [List.nil_append] at ho; have HO := Aside0.mk ho; have HB := Aside0.mk hb; clear ho hb)
  go_ret
  exact ⟨_, rfl, HO.out, HB.out⟩

end Go.Proofs.Ytcpkfkcemaihfaa.Oct
