import Derived.Test.YtpkclecgaheplaaRTmFc
namespace Go.Proofs.YtpkclecgaheplaaR.Oct
open Go.RowKit Go.Proofs.YtpkclecgaheplaaRW.PrintWords Go.Proofs.YtpkclecgaheplaaR.M
set_option linter.unusedVariables false
set_option linter.unusedSimpArgs false
attribute [local go_sem ↓] Go.wp_at_zero Go.wp_at_succ
set_option maxHeartbeats 40000000 in
theorem fread_unsum (w : World) (A : Option Addr) (c : Nat) (b : List Int) (hr : Kd.C (Kd.int .u8) w A b.length b) (hx : Bytes b) (hc : b.length ≤ c) (hl : 14 ≤ b.length) (h2 : b.length = 14 + lenAt b) (hsum : getF (b.drop (10 + lenAt b)) ≠ sumOf (b.take (10 + lenAt b))) : Calls Try.prog 10 #[.slice A b.length c] w (RetFR w (readF b)) := by
  obtain ⟨ad, rfl, _⟩ := C_byte hr (k := 0) (by omega)
  have HN := Aside0.mk (lenAt_get hx hl).1
  have hn2 := (lenAt_get hx hl).2
  have HR8 := Aside0.mk (C_mid hr (k := 8) (n := 2) (by omega))
  have HN2 : Aside0 (2 = ((b.drop 8).take 2).length) := ⟨by rw [List.length_take, List.length_drop]; omega⟩
  have HR := Aside0.mk hr
  have HX := Aside0.mk hx
  have hbl : b.length ≤ 9223372036854775807 := hr.2.1
  have h14 : (14 : Int) ≤ (b.length : Int) := by omega
  have h14c : (14 : Int) ≤ (c : Int) := by omega
  have hbc : (b.length : Int) ≤ (c : Int) := by omega
  have HS : Aside0 (getF (b.drop (10 + lenAt b)) ≠ sumOf (b.take (10 + lenAt b)) → readF b = (FR.zero, 31)) := ⟨readF_sum h2⟩
  have HM : Aside0 (getF (b.drop (10 + lenAt b)) = sumOf (b.take (10 + lenAt b)) → ¬ (frameOf b).mayP → readF b = (FR.zero, 70)) := ⟨readF_may h2⟩
  have HG : Aside0 (getF (b.drop (10 + lenAt b)) = sumOf (b.take (10 + lenAt b)) → (frameOf b).mayP → readF b = (frameOf b, 0)) := ⟨readF_good h2⟩
  have HSUM := Aside0.mk hsum
  clear hsum
  obtain ⟨n, hn⟩ : ∃ n, n = lenAt b := ⟨_, rfl⟩
  have HNE := Aside0.mk hn
  rw [← hn] at hn2 HN h2 HS HM HG HSUM
  obtain ⟨H, hH⟩ : ∃ H, H = 10 + n := ⟨_, rfl⟩
  rw [← hH] at HS HM HG HSUM
  have e1 : (10 : Int) + (n : Int) = (H : Int) := by omega
  have e1' : IntKind.i64.wrap ((10 : Int) + (n : Int)) = (H : Int) := by rw [IntWalk.i64_in _ (by omega)]; omega
  have e2' : IntKind.i64.wrap (H : Int) = (H : Int) := IntWalk.i64_in _ (by omega)
  have g1 : ¬ (b.length : Int) < (H : Int) + 4 := by omega
  have g2 : ¬ (H : Int) + 4 < (b.length : Int) := by omega
  have g3 : (H : Int) ≤ (b.length : Int) := by omega
  have g4 : (0 : Int) ≤ (H : Int) := by omega
  have g5 : (H : Int) ≤ (c : Int) := by omega
  have g6 : ¬ H = c := by omega
  have g7 : ¬ c = H := by omega
  have HRT := Aside0.mk (C_drop hr (k := H) (by omega))
  have HRH := Aside0.mk (C_take hr H (by omega))
  clear hr hx hl h2 hn hH
  go_enter Try.func10, Try.ntmps10
  go_wp2_with fail
  obtain ⟨w0, hw0⟩ : ∃ w0, w0 = w.alloc (.cells #[.int .u32 0, .int .i64 0, .int .i64 0, .slice none 0 0] 39) := ⟨_, rfl⟩
  have HB0 : Aside0 (Below w.heap.size w w0) := ⟨by rw [hw0]; exact below_alloc (Below.refl _ _) _⟩
  have HH0 : Aside0 (w0.heap[w.heap.size]? = some (.cells #[.int .u32 0, .int .i64 0, .int .i64 0, .slice none 0 0] 39 (0, 0))) := ⟨by rw [hw0]; exact heap_alloc_new w _⟩
  rw [← hw0]
  clear hw0
  refine (number_at _ (some (ad.add 8)) 2 (c - 8) ((b.drop 8).take 2) HN2.out (Kd.C_below HR8.out HB0.out) (HX.out.drop 8 |>.take 2) (by omega) (by omega) (n : Int) HN.out).mono ?_
  rintro e w1 ⟨rfl, rfl⟩
  go_wp2_with fail
  have HRTL : Aside0 (b.length - H = (b.drop H).length) := ⟨by rw [List.length_drop]⟩
  have HRHL : Aside0 (H = (b.take H).length) := ⟨by rw [List.length_take]; omega⟩
  have HL4 : Aside0 (b.length - H = 4) := ⟨by omega⟩
  have hxr := getF_range (HX.out.drop H) 4 (by rw [List.length_drop]; have := HL4.out; omega)
  rw [List.take_of_length_le (by rw [List.length_drop]; have := HL4.out; omega)] at hxr
  have hyr := sumOf_range (b.take H)
  obtain ⟨x, hxe⟩ : ∃ x, x = getF (b.drop H) := ⟨_, rfl⟩
  obtain ⟨y, hye⟩ : ∃ y, y = sumOf (b.take H) := ⟨_, rfl⟩
  rw [← hxe] at hxr HS HM HG HSUM
  rw [← hye] at hyr HS HM HG HSUM
  have HXE := Aside0.mk hxe
  have HYE := Aside0.mk hye
  obtain ⟨hx0, hx1⟩ := hxr
  have hx1 : x < 4294967296 := hx1
  obtain ⟨hy0, hy1⟩ := hyr
  have HDR := Aside0.mk (HX.out.drop H)
  have HTK := Aside0.mk (HX.out.take H)
  have HRT2 : Aside0 (Kd.C (Kd.int .u8) w (some (ad.add H)) (b.drop H).length (b.drop H)) := ⟨by rw [← HRTL.out]; exact HRT.out⟩
  have HRH2 : Aside0 (Kd.C (Kd.int .u8) w (some ad) (b.take H).length (b.take H)) := ⟨by rw [← HRHL.out]; exact HRH.out⟩
  have hxy := HSUM.out
  clear hxe hye
  obtain ⟨i0, hi0, hz0, hz1, hz2⟩ := info_parts info_u8
  have hcut : ∀ W : World, (Instr.slice 28 (.slice (some ad) b.length c) (some (.int .i64 (H : Int))) none none).run Try.prog W = .ok (.slice (some (ad.add H)) (b.length - H) (c - H)) W := fun W => by
    have := cut_from (P := Try.prog) 28 5 .i64 Try.underlying28 hi0 1 hz1 (some ad) b.length c (H : Int) g4 g3 W
    simp only [Int.toNat_natCast, Nat.mul_one, Option.map_some] at this
    rw [this, if_neg g7]
  clear hi0 hz0 hz1 hz2
  have hne : (x != y) = true := by simpa using hxy
  have HV := Aside0.mk (HS.out hxy)
  clear hxy
  go_quiet ((first
     | (go_at_call 24; exact Calls.quiet_of_same (number_at _ (some (ad.add H)) (b.length - H) (c - H) (b.drop H) HRTL.out (Kd.C_below HRT2.out (HB0.out.trans ((below_draws _ _).mono HB0.out.size))) HDR.out (by have := HL4.out; omega) (by have := HL4.out; omega) x HXE.out))
     | (go_at_call 21; exact Calls.quiet_of_same (sum_at _ (some ad) H c (b.take H) HRHL.out (Kd.C_below HRH2.out (HB0.out.trans ((below_draws _ _).mono HB0.out.size))) HTK.out y HYE.out))))
  obtain ⟨w2, hw2⟩ : ∃ w2, w2 = w1.drewN nq := ⟨_, rfl⟩
  have hb12 : Below w1.heap.size w1 w2 := by rw [hw2]; exact below_draws _ _
  have HB2 := Aside0.mk (HB0.out.trans (hb12.mono HB0.out.size))
  have HH2 := Aside0.mk (blk_keep HH0.out hb12)
  rw [← hw2]
  clear hw2 hb12
  obtain ⟨c0, c1, c2, c3, f0, f1, f2, f3⟩ := four_cells HH2.out
  go_wp2_with fail
  refine bodyPost_ret (v := .tuple #[.agg #[.int .u32 0, .int .i64 0, .int .i64 0, .slice none 0 0], .int .i64 31]) (by simp [results, Try.results10, go_sem, c0, c1, c2, c3, f0, f1, f2, f3]) rfl ?_
  refine retfr_zero HV.out ?_
  exact (((HB2.out.setCell (Nat.le_refl _) _).setCell (Nat.le_refl _) _).setCell (Nat.le_refl _) _).setCell (Nat.le_refl _) _
end Go.Proofs.YtpkclecgaheplaaR.Oct
