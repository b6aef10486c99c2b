import Derived.Test.YtmdipdjgfdjhoaaFrameF
namespace Go.Proofs.Ytmdipdjgfdjhoaa.Oct
open Go.RowKit Go.Proofs.YtmdipdjgfdjhoaaW.PrintWords Go.Proofs.Ytmdipdjgfdjhoaa.M
set_option linter.unusedVariables false
set_option linter.unusedSimpArgs false
set_option maxHeartbeats 4000000 in
theorem falive_calls (w : World) : Calls Try.prog 9 #[] w fun e w' => e = .returned (.bool true) ∧ Below w.heap.size w w' := by
  go_enter Try.func9, Try.ntmps9
  go_wp2_with fail
  refine (fwrite_calls _ ⟨1, 2, 3, [7]⟩ _ 1 (lit_reads [7] (by decide)) ⟨by decide, by decide, by decide, by unfold Bytes Byte; decide⟩).mono ?_
  rw [show FR.write ⟨1, 2, 3, [7]⟩ = ([0, 0, 0, 1, 0, 2, 0, 3, 0, 1, 7, 0, 52, 0, 15], 0) from by kernel_rfl]
  rintro e w1 ⟨v, rfl, hq, hb⟩
  obtain ⟨A1, c1, rfl, hle, hcm, hr⟩ := hq.form
  obtain ⟨_, g, off, rfl, hg⟩ := hq.pos (by decide)
  have hb1 : Below w.heap.size w w1 := (below_alloc (Below.refl _ _) _).trans (hb.mono (by simp))
  obtain ⟨ad, e3, k3⟩ := C_byte hr (k := 3) (by decide)
  injection e3 with e3
  subst e3
  obtain ⟨ad, e3, k10⟩ := C_byte hr (k := 10) (by decide)
  injection e3 with e3
  subst e3
  change w1.cell? ⟨g, off + 3, none⟩ = some (.int .u8 1) at k3
  change w1.cell? ⟨g, off + 10, none⟩ = some (.int .u8 7) at k10
  have HK3 := Aside0.mk k3
  have HK10 := Aside0.mk k10
  have HB1 := Aside0.mk hb1
  have hcap : (15 : Int) ≤ (c1 : Int) := by have : 15 ≤ c1 := hle; omega
  clear hle hcm hr hq hb hb1 hg k3 k10
  dsimp only [List.length_cons, List.length_nil]
  go_wp2_with fail
  refine (fwrite_calls _ FR.zero none 0 (Kd.C_nil _ _) FR.zero_ok).mono ?_
  rw [FR.write_bad FR.zero_may]
  rintro e w2 ⟨v2, rfl, hq2, hb2⟩
  obtain ⟨A2, c2, rfl, _⟩ := hq2.form
  have HB2 := Aside0.mk hb2
  clear hq2 hb2
  go_wp2_with fail
  refine (fread_tiny _ none 0 [] (by decide)).mono ?_
  rw [show readF [] = (FR.zero, 11) from rfl]
  rintro e w3 ⟨A3, c3, rfl, _, hb3⟩
  have hb13 := HB2.out.trans (hb3.mono HB2.out.size)
  have hba : Below w1.heap.size w1 (w3.alloc (.cells #[.int .u32 0, .int .i64 0, .int .i64 0, .slice A3 0 c3] 25)) := below_alloc hb13 _
  have k3 := (hba.cell (World.block_lt_of_cell? _ _ HK3.out)).trans HK3.out
  have k10 := (hba.cell (World.block_lt_of_cell? _ _ HK10.out)).trans HK10.out
  have HB3 := Aside0.mk (HB1.out.trans (hba.mono HB1.out.size))
  dsimp only [FR.zero, List.length_nil]
  clear hb13 hb3 hba
  go_wp2_with fail
  go_ret
  exact ⟨rfl, HB3.out⟩
end Go.Proofs.Ytmdipdjgfdjhoaa.Oct
