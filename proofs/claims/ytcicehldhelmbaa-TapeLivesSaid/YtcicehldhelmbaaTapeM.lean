import Derived.Test.YtcicehldhelmbaaRead
import Derived.Test.YtcicehldhelmbaaTapeL
namespace Go.Proofs.Ytcicehldhelmbaa.Oct
open Go.RowKit Go.Proofs.YtcicehldhelmbaaW.PrintWords Go.Proofs.Ytcicehldhelmbaa.M Go.Proofs.Ytcicehldhelmbaa.Rd
set_option linter.unusedVariables false
set_option linter.unusedSimpArgs false
section
variable {H : Type} {enc : TypeId × Value → H} {w : World} {base : Nat} {spare : Nat → Bool} {held : Bool}
theorem bytesRd : Rd enc Try.prog w base spare held 30 (Kd.slice 5 (Kd.int .u8)) (fun xs => (∀ x ∈ xs, (Lit.int .u8 x).wf = true) ∧ xs.length * Try.prog.bytesOf 5 ≤ reachBytes) :=
  Rd.slice Try.underlying30 (by kernel_rfl) (Rd.int Try.underlying5 (by kernel_rfl))
theorem bytes_len {xs : List Int} (h : xs.length * Try.prog.bytesOf 5 ≤ reachBytes) : xs.length ≤ 140737488355328 := by
  have h1 : Try.prog.bytesOf 5 = 1 := by kernel_rfl
  rw [h1] at h
  have := reachBytes_lt
  omega
def OpG (o : OpS) : Prop := (Lit.int .i64 o.1).wf = true ∧ (Lit.int .i64 o.2.1).wf = true ∧ (∀ x ∈ o.2.2, (Lit.int .u8 x).wf = true) ∧ o.2.2.length * Try.prog.bytesOf 5 ≤ reachBytes
theorem opRd : Rd enc Try.prog w base spare held 32 opK OpG :=
  Rd.struct (ts := [3, 3, 30]) Try.underlying32 (by rfl) (by kernel_rfl) (by kernel_rfl) (RdL.cons (Rd.int Try.underlying3 (by kernel_rfl)) (RdL.cons (Rd.int Try.underlying3 (by kernel_rfl)) (RdL.one bytesRd)))
theorem opsRd : Rd enc Try.prog w base spare held 22 (Kd.slice 32 opK) (fun xs => (∀ x ∈ xs, OpG x) ∧ xs.length * Try.prog.bytesOf 32 ≤ reachBytes) := Rd.slice Try.underlying22 (by kernel_rfl) opRd
theorem op_good {o : OpS} (h : OpG o) : OpS.ok o := ⟨i64b h.1, i64b h.2.1, bytes_good h.2.2.1⟩
end
end Go.Proofs.Ytcicehldhelmbaa.Oct
