import Derived.Test.YtmdipdjgfdjhoaaFrameH
namespace Go.Proofs.Ytmdipdjgfdjhoaa.Oct
open Go.RowKit Go.Proofs.YtmdipdjgfdjhoaaW.PrintWords Go.Proofs.Ytmdipdjgfdjhoaa.M
set_option linter.unusedVariables false
set_option linter.unusedSimpArgs false
set_option maxHeartbeats 8000000 in
theorem fturned_calls (w : World) (f : FR) (A : Option Addr) (c : Nat) (i y : Int) (hr : Kd.C (Kd.int .u8) w A f.d.length f.d) (ho : f.ok) (hi : -9223372036854775808 ≤ i ∧ i ≤ 9223372036854775807) (hy : Byte y) :
    Calls Try.prog 6 #[.agg #[.int .u32 f.s, .int .i64 f.q, .int .i64 f.k, .slice A f.d.length c], .int .i64 i, .int .u8 y] w (Yes w) := by
  have HR := Aside0.mk hr
  have HO := Aside0.mk ho
  have hl : f.d.length ≤ 9223372036854775807 := hr.2.1
  have HBX : Aside0 (Below w.heap.size w (w.alloc (frC f A c))) := ⟨below_alloc (Below.refl _ _) _⟩
  have HHX : Aside0 ((w.alloc (frC f A c)).heap[w.heap.size]? = some (.cells #[.int .u32 f.s, .int .i64 f.q, .int .i64 f.k, .slice A f.d.length c] 25 (0, 0))) := ⟨heap_alloc_new w _⟩
  have HP : Aside0 (f.mayP → f.write = (f.all, 0)) := ⟨FR.write_all⟩
  have HN : Aside0 (¬ f.mayP → f.write = ([], 70)) := ⟨FR.write_bad⟩
  clear hr ho
  by_cases h2 : 2000 < (f.d.length : Int)
  · clear hi hy
    go_enter Try.func6, Try.ntmps6
    go_wp2_with fail
    refine (falive_calls _).mono ?_
    rintro e w3 ⟨rfl, hb3⟩
    have HB3 := Aside0.mk (HBX.out.trans (hb3.mono HBX.out.size))
    clear hb3
    go_wp2_with fail
    go_ret
    exact ⟨rfl, HB3.out⟩
  · have h2' : (f.d.length : Int) ≤ 2000 := by omega
    clear h2
    have HY := Aside0.mk hy
    by_cases hp : f.mayP
    · have HW := Aside0.mk (HP.out hp)
      have HMP := Aside0.mk hp
      obtain ⟨hi0, hi1⟩ := hi
      clear hp hy
      have hcase : i < 0 ∨ (0 ≤ i ∧ (f.all.length : Int) ≤ i) ∨ (0 ≤ i ∧ i < (f.all.length : Int) ∧ y = 0) ∨ (0 ≤ i ∧ i < (f.all.length : Int) ∧ y ≠ 0) := by omega
      have HAB := Aside0.mk (FR.all_bytes HO.out)
      have HT : Aside0 (∀ n z, n < f.all.length → Byte z → f.all.getD n 0 ≠ z → (readF (f.all.set n z)).2 ≠ 0) := ⟨fun n z hn hz hne => readF_turned HMP.out HO.out hn hz hne⟩
      have HAL : Aside0 (0 < f.all.length ∧ f.all.length ≤ 3000) := ⟨by rw [FR.all_len]; omega⟩
      obtain ⟨xs, hxs⟩ : ∃ xs, xs = f.all := ⟨_, rfl⟩
      rw [← hxs] at HW hcase HAB HT HAL
      clear hxs
      go_enter Try.func6, Try.ntmps6
      go_wp2_with fail
      refine (fwrite_calls _ f A c (Kd.C_below HR.out HBX.out) HO.out).mono ?_
      rw [HW.out]
      rintro e w1 ⟨v, rfl, hq, hb⟩
      have HB1 := Aside0.mk (HBX.out.trans (hb.mono HBX.out.size))
      obtain ⟨A1, c1, rfl, hle, hcm, hr⟩ := hq.form
      obtain ⟨_, g, off, rfl, hg⟩ := hq.pos HAL.out.1
      have HQ := Aside0.mk hq
      have hle : xs.length ≤ c1 := hle
      have hlc : (xs.length : Int) ≤ (c1 : Int) := by omega
      clear hb hq hr hle hcm hg
      rcases hcase with h | h | ⟨h, h', h0⟩ | ⟨h, h', h0⟩
      · go_wp2_with fail
        refine (falive_calls _).mono ?_
        rintro e w3 ⟨rfl, hb3⟩
        have HB3 := Aside0.mk (HB1.out.trans (hb3.mono HB1.out.size))
        clear hb3
        go_wp2_with fail
        go_ret
        exact ⟨rfl, HB3.out⟩
      · obtain ⟨h, h'⟩ := h
        go_wp2_with fail
        refine (falive_calls _).mono ?_
        rintro e w3 ⟨rfl, hb3⟩
        have HB3 := Aside0.mk (HB1.out.trans (hb3.mono HB1.out.size))
        clear hb3
        go_wp2_with fail
        go_ret
        exact ⟨rfl, HB3.out⟩
      · have b0 : (y == 0) = true := by simpa using h0
        clear h0
        go_wp2_with fail
        refine (falive_calls _).mono ?_
        rintro e w3 ⟨rfl, hb3⟩
        have HB3 := Aside0.mk (HB1.out.trans (hb3.mono HB1.out.size))
        clear hb3
        go_wp2_with fail
        go_ret
        exact ⟨rfl, HB3.out⟩
      · have b0 : (y == 0) = false := beq_eq_false_iff_ne.2 h0
        obtain ⟨n, rfl⟩ := Int.eq_ofNat_of_zero_le h
        have hn : n < xs.length := by omega
        obtain ⟨z, hz, hzb, hne⟩ := getD_lt_ne HAB.out HY.out h0 n
        obtain ⟨hcell, hfr, hq2⟩ := HQ.out.set hn z
        obtain ⟨u, hu⟩ : ∃ u, u = xs.getD n 0 := ⟨_, rfl⟩
        rw [← hu] at hcell hz
        have HER := Aside0.mk (HT.out n z hn hzb hne)
        have HBY := Aside0.mk (HAB.out.set hzb n)
        have HQ2 := Aside0.mk hq2
        have HSL : Aside0 (xs.length = (xs.set n z).length) := ⟨by rw [List.length_set]⟩
        have HG : Aside0 (w.heap.size ≤ g) := ⟨Nat.le_trans HBX.out.size (HQ.out.block rfl).1⟩
        obtain ⟨ys, hys⟩ : ∃ ys, ys = xs.set n z := ⟨_, rfl⟩
        rw [← hys] at HER HBY HQ2 HSL
        have HLC : Aside0 (ys.length ≤ c1) := ⟨by have := HSL.out; omega⟩
        clear h0 hne hq2 hu hys hzb
        go_wp2_with fail
        obtain ⟨w2, hw2⟩ : ∃ w2, w2 = w1.setCell ⟨g, off + n, none⟩ (.int .u8 z) := ⟨_, rfl⟩
        rw [← hw2] at HQ2 ⊢
        have HB2 : Aside0 (Below w.heap.size w w2) := ⟨by rw [hw2]; exact HB1.out.setCell HG.out _⟩
        clear hcell hfr hw2 hz
        have hrd := HQ2.out.C
        refine (fread_at _ (some ⟨g, off, none⟩) xs.length c1 ys HSL.out hrd HBY.out HLC.out).mono ?_
        have hzero := readF_err HER.out
        obtain ⟨er, her⟩ : ∃ er, er = (readF ys).2 := ⟨_, rfl⟩
        have HRF : Aside0 (readF ys = (FR.zero, er)) := ⟨Prod.ext hzero her.symm⟩
        have hne : (er != 0) = true := by have := HER.out; rw [← her] at this; simpa using this
        clear hrd hzero her
        rw [HRF.out]
        rintro e w3 ⟨A3, c3, rfl, _, hb3⟩
        have HB3 := Aside0.mk (HB2.out.trans (hb3.mono HB2.out.size))
        clear hb3
        dsimp only [FR.zero, List.length_nil]
        go_wp2_with fail
        refine (falive_calls _).mono ?_
        rintro e w4 ⟨rfl, hb4⟩
        have HH4 := Aside0.mk (blk_keep (heap_alloc_new w3 (.cells #[.int .u32 0, .int .i64 0, .int .i64 0, .slice A3 0 c3] 25)) hb4)
        have hba := below_alloc HB3.out (.cells #[.int .u32 0, .int .i64 0, .int .i64 0, .slice A3 0 c3] 25)
        have HB4 := Aside0.mk (hba.trans (hb4.mono hba.size))
        clear hb4 hba
        obtain ⟨t0, t1, t2, t3, r0, r1, r2, r3⟩ := four_cells HH4.out
        go_wp2_with fail
        refine (same_calls _ FR.zero FR.zero A3 none c3 0 ⟨rfl, by decide, fun h => absurd h (by decide)⟩ (Kd.C_nil _ _) Bytes.nil Bytes.nil).mono ?_
        rw [same_self]
        rintro e w5 ⟨rfl, hb5⟩
        have HB5 := Aside0.mk (HB4.out.trans (hb5.mono HB4.out.size))
        clear hb5
        go_wp2_with fail
        go_ret
        exact ⟨rfl, HB5.out⟩
    · have HW := Aside0.mk (HN.out hp)
      clear hp hy hi
      go_enter Try.func6, Try.ntmps6
      go_wp2_with fail
      refine (fwrite_calls _ f A c (Kd.C_below HR.out HBX.out) HO.out).mono ?_
      rw [HW.out]
      rintro e w1 ⟨v, rfl, hq, hb⟩
      have HB1 := Aside0.mk (HBX.out.trans (hb.mono HBX.out.size))
      obtain ⟨A1, c1, rfl, _⟩ := hq.form
      clear hb hq
      go_wp2_with fail
      refine (falive_calls _).mono ?_
      rintro e w3 ⟨rfl, hb3⟩
      have HB3 := Aside0.mk (HB1.out.trans (hb3.mono HB1.out.size))
      clear hb3
      go_wp2_with fail
      go_ret
      exact ⟨rfl, HB3.out⟩
end Go.Proofs.Ytmdipdjgfdjhoaa.Oct
