import Derived.Test.YtilogpjbdemceaaPathF
namespace Go.Proofs.Ytilogpjbdemceaa.Oct
open Go.RowKit Go.Proofs.YtilogpjbdemceaaW.PrintWords Go.Proofs.Ytilogpjbdemceaa.M Go.Proofs.Ytilogpjbdemceaa.Rd
set_option linter.unusedVariables false
set_option linter.unusedSimpArgs false
abbrev POp := Int × Int × Int × List Int × Int
abbrev popK : Kd POp := Kd.pair (Kd.int .i64) (Kd.pair (Kd.int .i64) (Kd.pair (Kd.int .i64) (Kd.pair (Kd.slice 5 (Kd.int .u8)) (Kd.int .u8))))
def POp.ok (o : POp) : Prop := (-9223372036854775808 ≤ o.1 ∧ o.1 ≤ 9223372036854775807) ∧ (-9223372036854775808 ≤ o.2.1 ∧ o.2.1 ≤ 9223372036854775807) ∧ (-9223372036854775808 ≤ o.2.2.1 ∧ o.2.2.1 ≤ 9223372036854775807) ∧ Bytes o.2.2.2.1 ∧ Byte o.2.2.2.2
section
variable {H : Type} {enc : TypeId × Value → H} {w : World} {base : Nat} {spare : Nat → Bool} {held : Bool}
theorem bytesRd : Rd enc Try.prog w base spare held 26 (Kd.slice 5 (Kd.int .u8)) (fun xs => (∀ x ∈ xs, (Lit.int .u8 x).wf = true) ∧ xs.length * Try.prog.bytesOf 5 ≤ reachBytes) :=
  Rd.slice Try.underlying26 (by kernel_rfl) (Rd.int Try.underlying5 (by kernel_rfl))
theorem textsRd : Rd enc Try.prog w base spare held 25 (Kd.slice 26 (Kd.slice 5 (Kd.int .u8))) (fun xs => (∀ x ∈ xs, (∀ y ∈ x, (Lit.int .u8 y).wf = true) ∧ x.length * Try.prog.bytesOf 5 ≤ reachBytes) ∧ xs.length * Try.prog.bytesOf 26 ≤ reachBytes) :=
  Rd.slice Try.underlying25 (by kernel_rfl) bytesRd
theorem bytes_len {xs : List Int} (h : xs.length * Try.prog.bytesOf 5 ≤ reachBytes) : xs.length ≤ 140737488355328 := by
  have h1 : Try.prog.bytesOf 5 = 1 := by kernel_rfl
  rw [h1] at h
  have := reachBytes_lt
  omega
def POpG (o : POp) : Prop := (Lit.int .i64 o.1).wf = true ∧ (Lit.int .i64 o.2.1).wf = true ∧ (Lit.int .i64 o.2.2.1).wf = true ∧ ((∀ x ∈ o.2.2.2.1, (Lit.int .u8 x).wf = true) ∧ o.2.2.2.1.length * Try.prog.bytesOf 5 ≤ reachBytes) ∧ (Lit.int .u8 o.2.2.2.2).wf = true
theorem popRd : Rd enc Try.prog w base spare held 28 popK POpG :=
  Rd.struct (ts := [3, 3, 3, 26, 5]) Try.underlying28 (by rfl) (by kernel_rfl) (by kernel_rfl) (RdL.cons (Rd.int Try.underlying3 (by kernel_rfl)) (RdL.cons (Rd.int Try.underlying3 (by kernel_rfl)) (RdL.cons (Rd.int Try.underlying3 (by kernel_rfl)) (RdL.cons bytesRd (RdL.one (Rd.int Try.underlying5 (by kernel_rfl)))))))
theorem popsRd : Rd enc Try.prog w base spare held 22 (Kd.slice 28 popK) (fun xs => (∀ x ∈ xs, POpG x) ∧ xs.length * Try.prog.bytesOf 28 ≤ reachBytes) := Rd.slice Try.underlying22 (by kernel_rfl) popRd
theorem pop_good {o : POp} (h : POpG o) : POp.ok o := ⟨i64b h.1, i64b h.2.1, i64b h.2.2.1, bytes_good h.2.2.2.1.1, Oct.byte_wf h.2.2.2.2⟩
end
/-- a field's address behind an element's -/
theorem add_lit_add (a : Addr) (i j : Nat) : a.add (i + (j + 1)) = ⟨(a.add i).block, (a.add i).off + (j + 1), none⟩ := by
  rw [← Rd.addr_add_add]
  exact if_neg (Nat.succ_ne_zero j)
/-- an element of a row of calls: its five cells, its bytes -/
theorem pop_at {W : World} {A : Option Addr} {n : Nat} {l : List POp} (h : popK.C W A n l) {k : Nat} (hk : k < n) (z : POp) :
    ∃ ad B c, A = some ad ∧ W.cell? (ad.add (k * 5)) = some (.int .i64 (l.getD k z).1) ∧ W.cell? ⟨(ad.add (k * 5)).block, (ad.add (k * 5)).off + 1, none⟩ = some (.int .i64 (l.getD k z).2.1) ∧ W.cell? ⟨(ad.add (k * 5)).block, (ad.add (k * 5)).off + 2, none⟩ = some (.int .i64 (l.getD k z).2.2.1) ∧ W.cell? ⟨(ad.add (k * 5)).block, (ad.add (k * 5)).off + 3, none⟩ = some (.slice B (l.getD k z).2.2.2.1.length c) ∧ W.cell? ⟨(ad.add (k * 5)).block, (ad.add (k * 5)).off + 4, none⟩ = some (.int .u8 (l.getD k z).2.2.2.2) ∧ (l.getD k z).2.2.2.1.length ≤ c ∧ Kd.C (Kd.int .u8) W B (l.getD k z).2.2.2.1.length (l.getD k z).2.2.2.1 := by
  obtain ⟨ad, c, e, hs, hK, hcell⟩ := Kd.C_get h z (k : Int) (by omega) (by omega)
  simp only [Int.toNat_natCast] at hK hcell
  obtain ⟨c0, c1, rfl, h0, h1⟩ := hK
  obtain ⟨c2, c3, rfl, h2, h3⟩ := h1
  obtain ⟨c4, c5, rfl, h4, h5⟩ := h3
  obtain ⟨c6, c7, rfl, h6, h7⟩ := h5
  obtain ⟨B, cc, rfl, hl, hr⟩ := h6
  have h0' : c0 = [.int .i64 (l.getD k z).1] := h0
  have h2' : c2 = [.int .i64 (l.getD k z).2.1] := h2
  have h4' : c4 = [.int .i64 (l.getD k z).2.2.1] := h4
  have h7' : c7 = [.int .u8 (l.getD k z).2.2.2.2] := h7
  subst h0' h2' h4' h7'
  exact ⟨ad, B, cc, e, hcell 0 _ rfl, (by rw [← add_lit_add]; exact hcell 1 _ rfl), (by rw [← add_lit_add]; exact hcell 2 _ rfl), (by rw [← add_lit_add]; exact hcell 3 _ rfl), (by rw [← add_lit_add]; exact hcell 4 _ rfl), hl, hr⟩
abbrev textK : Kd (List Int) := Kd.slice 5 (Kd.int .u8)
/-- a text of a row of texts -/
theorem text_at {W : World} {A : Option Addr} {n : Nat} {l : List (List Int)} (h : textK.C W A n l) {k : Nat} (hk : k < n) :
    ∃ ad B c, A = some ad ∧ W.cell? (ad.add k) = some (.slice B (l.getD k []).length c) ∧ Kd.C (Kd.int .u8) W B (l.getD k []).length (l.getD k []) := by
  obtain ⟨ad, c, e, hs, hK, hcell⟩ := Kd.C_get h [] (k : Int) (by omega) (by omega)
  simp only [Int.toNat_natCast] at hK hcell
  obtain ⟨B, cc, rfl, hl, hr⟩ := hK
  have hsz : textK.sz = 1 := rfl
  have := hcell 0 _ rfl
  rw [hsz, Nat.mul_one, Nat.add_zero] at this
  exact ⟨ad, B, cc, e, this, hr⟩
end Go.Proofs.Ytilogpjbdemceaa.Oct
