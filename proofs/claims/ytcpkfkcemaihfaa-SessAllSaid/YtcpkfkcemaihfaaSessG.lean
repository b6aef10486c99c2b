import Derived.Test.YtcpkfkcemaihfaaSessF
import Derived.Test.YtcpkfkcemaihfaaRead
namespace Go.Proofs.Ytcpkfkcemaihfaa.Oct
open Go.RowKit Go.Proofs.YtcpkfkcemaihfaaW.PrintWords Go.Proofs.Ytcpkfkcemaihfaa.M Go.Proofs.Ytcpkfkcemaihfaa.Rd
set_option linter.unusedVariables false
set_option linter.unusedSimpArgs false
/- How the rows' data are read. -/
section
variable {H : Type} {enc : TypeId × Value → H} {w : World} {base : Nat} {spare : Nat → Bool} {held : Bool}
theorem bytesRd : Rd enc Try.prog w base spare held 38 (Kd.slice 5 (Kd.int .u8)) (fun xs => (∀ x ∈ xs, (Lit.int .u8 x).wf = true) ∧ xs.length * Try.prog.bytesOf 5 ≤ reachBytes) :=
  Rd.slice Try.underlying38 (by kernel_rfl) (Rd.int Try.underlying5 (by kernel_rfl))
theorem textsRd : Rd enc Try.prog w base spare held 23 (Kd.slice 38 (Kd.slice 5 (Kd.int .u8))) (fun xs => (∀ x ∈ xs, (∀ y ∈ x, (Lit.int .u8 y).wf = true) ∧ x.length * Try.prog.bytesOf 5 ≤ reachBytes) ∧ xs.length * Try.prog.bytesOf 38 ≤ reachBytes) :=
  Rd.slice Try.underlying23 (by kernel_rfl) bytesRd
theorem bytes_len {xs : List Int} (h : xs.length * Try.prog.bytesOf 5 ≤ reachBytes) : xs.length ≤ 140737488355328 := by
  have h1 : Try.prog.bytesOf 5 = 1 := by kernel_rfl
  rw [h1] at h
  have := reachBytes_lt
  omega
theorem intsRd : Rd enc Try.prog w base spare held 24 (Kd.slice 3 (Kd.int .i64)) (fun xs => (∀ x ∈ xs, (Lit.int .i64 x).wf = true) ∧ xs.length * Try.prog.bytesOf 3 ≤ reachBytes) :=
  Rd.slice Try.underlying24 (by kernel_rfl) (Rd.int Try.underlying3 (by kernel_rfl))
abbrev FrT := Int × Int × Int × List Int
abbrev frameK : Kd FrT := Kd.pair (Kd.int .u32) (Kd.pair (Kd.int .i64) (Kd.pair (Kd.int .i64) (Kd.slice 5 (Kd.int .u8))))
def FrG (o : FrT) : Prop := (Lit.int .u32 o.1).wf = true ∧ (Lit.int .i64 o.2.1).wf = true ∧ (Lit.int .i64 o.2.2.1).wf = true ∧ ((∀ x ∈ o.2.2.2, (Lit.int .u8 x).wf = true) ∧ o.2.2.2.length * Try.prog.bytesOf 5 ≤ reachBytes)
theorem frameRd : Rd enc Try.prog w base spare held 42 frameK FrG :=
  Rd.struct (ts := [22, 3, 3, 38]) Try.underlying42 (by rfl) (by kernel_rfl) (by kernel_rfl) (RdL.cons (Rd.int Try.underlying22 (by kernel_rfl)) (RdL.cons (Rd.int Try.underlying3 (by kernel_rfl)) (RdL.cons (Rd.int Try.underlying3 (by kernel_rfl)) (RdL.one bytesRd))))
theorem Rd.bool {T : TypeId} (hu : Try.prog.underlying T = some .bool) (hc : Try.prog.cellsOf T = 1) : Rd enc Try.prog w base spare held T Kd.bool (fun _ => True) := by
  refine ⟨hc, fun fuel cs x h _ => ?_⟩
  obtain ⟨b, rfl, rfl⟩ := DataW.trod_bool hu h
  exact ⟨b, rfl, trivial⟩
end
theorem u32b {n : Int} (h : (Lit.int .u32 n).wf = true) : 0 ≤ n ∧ n < 4294967296 := by
  have := Go.bounds_u32 h
  omega
theorem frame_arg {H : Type} {enc : TypeId × Value → H} {w : World} {base : Nat} {spare : Nat → Bool} {held : Bool} {cs : Array Value} {dd : DataW H} {ps : List MemPlace} (hw : ∀ n ∈ DataW.weights Try.prog 42 dd, n ≤ reachBytes)
    (h : DataW.Trod enc Try.prog w base spare held 42 (.agg cs) dd ps) : ∃ (f : FR) (B : Option Addr) (c : Nat), cs = #[.int .u32 f.s, .int .i64 f.q, .int .i64 f.k, .slice B f.d.length c] ∧ Kd.C (Kd.int .u8) w B f.d.length f.d ∧ (f.ok ∧ f.d.length ≤ c ∧ f.d.length ≤ 140737488355328) := by
  obtain ⟨fuel, hf⟩ := h
  obtain ⟨⟨s, q, k, d⟩, hK, hG⟩ := (frameRd (w := w)).read fuel _ _ hf hw
  obtain ⟨c0, c1, e, h0, h1⟩ := hK
  obtain ⟨c2, c3, rfl, h2, h3⟩ := h1
  obtain ⟨c4, c5, rfl, h4, B, c, rfl, hl, hC⟩ := h3
  have h0' : c0 = [.int .u32 s] := h0
  have h2' : c2 = [.int .i64 q] := h2
  have h4' : c4 = [.int .i64 k] := h4
  subst h0' h2' h4'
  refine ⟨⟨s, q, k, d⟩, B, c, ?_, hC, ⟨u32b hG.1, i64b hG.2.1, i64b hG.2.2.1, bytes_good hG.2.2.2.1⟩, hl, bytes_len hG.2.2.2.2⟩
  have e' : cs.toList = [.int .u32 s] ++ ([.int .i64 q] ++ ([.int .i64 k] ++ [.slice B d.length c])) := e
  cases cs
  simpa using e'
end Go.Proofs.Ytcpkfkcemaihfaa.Oct
