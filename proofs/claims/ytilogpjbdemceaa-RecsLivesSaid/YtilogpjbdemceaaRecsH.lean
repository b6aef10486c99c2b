import Derived.Test.YtilogpjbdemceaaRecsG
namespace Go.Proofs.Ytilogpjbdemceaa.Oct
open Go.RowKit Go.Proofs.YtilogpjbdemceaaW.PrintWords Go.Proofs.Ytilogpjbdemceaa.M Go.Proofs.Ytilogpjbdemceaa.Rd
set_option linter.unusedVariables false
set_option linter.unusedSimpArgs false
section
variable {H : Type} {enc : TypeId × Value → H} {w : World} {base : Nat} {spare : Nat → Bool} {held : Bool}
theorem bytesRd : Rd enc Try.prog w base spare held 26 (Kd.slice 5 (Kd.int .u8)) (fun xs => (∀ x ∈ xs, (Lit.int .u8 x).wf = true) ∧ xs.length * Try.prog.bytesOf 5 ≤ reachBytes) :=
  Rd.slice Try.underlying26 (by kernel_rfl) (Rd.int Try.underlying5 (by kernel_rfl))
theorem intsRd : Rd enc Try.prog w base spare held 39 (Kd.slice 3 (Kd.int .i64)) (fun xs => (∀ x ∈ xs, (Lit.int .i64 x).wf = true) ∧ xs.length * Try.prog.bytesOf 3 ≤ reachBytes) :=
  Rd.slice Try.underlying39 (by kernel_rfl) (Rd.int Try.underlying3 (by kernel_rfl))
theorem textsRd : Rd enc Try.prog w base spare held 25 (Kd.slice 26 (Kd.slice 5 (Kd.int .u8))) (fun xs => (∀ x ∈ xs, (∀ y ∈ x, (Lit.int .u8 y).wf = true) ∧ x.length * Try.prog.bytesOf 5 ≤ reachBytes) ∧ xs.length * Try.prog.bytesOf 26 ≤ reachBytes) :=
  Rd.slice Try.underlying25 (by kernel_rfl) bytesRd
theorem bytes_len {xs : List Int} (h : xs.length * Try.prog.bytesOf 5 ≤ reachBytes) : xs.length ≤ 140737488355328 := by
  have h1 : Try.prog.bytesOf 5 = 1 := by kernel_rfl
  rw [h1] at h
  have := reachBytes_lt
  omega
def OpG (o : OpS) : Prop := (Lit.int .i64 o.1).wf = true ∧ (Lit.int .i64 o.2.1).wf = true ∧ (∀ x ∈ o.2.2, (Lit.int .u8 x).wf = true) ∧ o.2.2.length * Try.prog.bytesOf 5 ≤ reachBytes
theorem opRd : Rd enc Try.prog w base spare held 62 opK OpG :=
  Rd.struct (ts := [3, 3, 26]) Try.underlying62 (by rfl) (by kernel_rfl) (by kernel_rfl) (RdL.cons (Rd.int Try.underlying3 (by kernel_rfl)) (RdL.cons (Rd.int Try.underlying3 (by kernel_rfl)) (RdL.one bytesRd)))
theorem opsRd : Rd enc Try.prog w base spare held 57 (Kd.slice 62 opK) (fun xs => (∀ x ∈ xs, OpG x) ∧ xs.length * Try.prog.bytesOf 62 ≤ reachBytes) := Rd.slice Try.underlying57 (by kernel_rfl) opRd
theorem op_good {o : OpS} (h : OpG o) : OpS.ok o := ⟨i64b h.1, i64b h.2.1, bytes_good h.2.2.1⟩
end
end Go.Proofs.Ytilogpjbdemceaa.Oct
