import Derived.Test.YtdagpeencafheaaOctG
namespace Go.Proofs.Ytdagpeencafheaa.Oct
open Go.RowKit Go.Proofs.YtdagpeencafheaaW.PrintWords Go.Proofs.Ytdagpeencafheaa.M
set_option linter.unusedVariables false
set_option linter.unusedSimpArgs false
theorem u64_orb {v x : Int} (h0 : 0 ≤ v) (h : v < 72057594037927936) (hx0 : 0 ≤ x) (hx : x < 256) : Go.bits .or .u64 (v * 256) x = v * 256 + x :=
  bits_join .u64 64 (by decide) (fun n h0 h1 => by simp [IntKind.wrap, IntKind.bits, IntKind.signed]; omega) 8 _ _ (by omega) (by omega) (by omega) hx0 (by omega) (by omega)
theorem getM_bad {xs : List Int} (h : xs.length < 1 ∨ 8 < xs.length) : getM xs = (0, 1) := by unfold getM; rw [if_pos h]
theorem getM_good {xs : List Int} (h1 : 1 ≤ xs.length) (h2 : xs.length ≤ 8) : getM xs = (getF xs, 0) := by unfold getM; rw [if_neg (by omega)]
theorem ret_pair {a b c d : Value} (h : a = c) (k : b = d) : Ending.returned (.tuple #[a, b]) = .returned (.tuple #[c, d]) := by rw [h, k]
set_option maxHeartbeats 400000 in
theorem get_calls (w : World) (A : Option Addr) (c : Nat) (xs : List Int) (hr : Kd.C (Kd.int .u8) w A xs.length xs) (hx : Bytes xs) :
    Calls Try.prog 20 #[.slice A xs.length c] w fun e w' => e = .returned (.tuple #[.int .u64 (getM xs).1, .int .i64 (getM xs).2]) ∧ w' = w := by
  have hlen : xs.length ≤ 9223372036854775807 := hr.2.1
  have HR := Aside0.mk hr
  have HX := Aside0.mk hx
  clear hr hx
  by_cases h1 : (xs.length : Int) < 1
  · go_enter Try.func20, Try.ntmps20
    go_wp2
    go_ret2
    exact ⟨by rw [getM_bad (.inl (by omega))]; rfl, rfl⟩
  by_cases h2 : 8 < (xs.length : Int)
  · go_enter Try.func20, Try.ntmps20
    go_wp2
    go_ret2
    exact ⟨by rw [getM_bad (.inr (by omega))]; rfl, rfl⟩
  have HM := Aside0.mk (getM_good (xs := xs) (by omega) (by omega))
  go_enter Try.func20, Try.ntmps20
  go_wp2
  go_loop [4, 6, 17] (fun v4 _ v17 => ∃ (k : Nat) (v : Int), k ≤ xs.length ∧ v4 = .int .u64 v ∧ v17 = .int .i64 k ∧ Aside0 (v = getF (xs.take k))) (fun _ _ v => xs.length - (intOf v).toNat)
  case atStart => exact ⟨0, 0, by omega, rfl, rfl, ⟨rfl⟩⟩
  case round =>
    obtain ⟨k, v, hk, rfl, rfl, HA⟩ := hrel
    by_cases hlt : k < xs.length
    · obtain ⟨ad, e, hcell⟩ := C_byte HR.out hlt
      cases e
      have hb := HX.out.getD k
      obtain ⟨hv0, hv1⟩ : 0 ≤ v ∧ v < 72057594037927936 := by rw [HA.out]; exact getF_small HX.out (by omega) (by omega)
      have HS := Aside0.mk (getF_take xs k hlt)
      obtain ⟨x, hx⟩ : ∃ x, x = xs.getD k 0 := ⟨_, rfl⟩
      rw [← hx] at hb hcell
      have HX' := Aside0.mk hx
      clear hx
      obtain ⟨hb0, hb1⟩ := hb
      have hor := u64_orb hv0 hv1 hb0 hb1
      go_wp2
      go_round
      case rel => exact ⟨k + 1, v * 256 + x, by omega, by go_num, by go_num, ⟨by rw [HS.out, ← HX'.out, ← HA.out, Int.mul_comm]⟩⟩
      case measure => simp [intOf]; omega
    · obtain rfl : k = xs.length := by omega
      go_wp2
      go_ret2
      refine ⟨?_, rfl⟩
      have := HA.out
      rw [List.take_length] at this
      rw [HM.out, ← this]
      rfl
set_option maxHeartbeats 400000 in
theorem rget_calls (w : World) (A : Option Addr) (c : Nat) (xs : List Int) (hr : Kd.C (Kd.int .u8) w A xs.length xs) (hx : Bytes xs) :
    Calls Try.prog 21 #[.slice A xs.length c] w fun e w' => e = .returned (.tuple #[.int .u64 (getM xs).1, .int .i64 (getM xs).2]) ∧ w' = w := by
  have hlen : xs.length ≤ 9223372036854775807 := hr.2.1
  have HR := Aside0.mk hr
  have HX := Aside0.mk hx
  clear hr hx
  by_cases h1 : (xs.length : Int) = 0
  · have hb1 : ((xs.length : Int) == 0) = true := by simp [h1]
    have H1 := Aside0.mk h1
    clear h1
    go_enter Try.func21, Try.ntmps21
    go_wp2
    go_ret2
    exact ⟨by rw [getM_bad (.inl (by have := H1.out; omega))]; rfl, rfl⟩
  have hb1 : ((xs.length : Int) == 0) = false := by simp only [beq_eq_false_iff_ne]; exact h1
  by_cases h2 : 8 < (xs.length : Int)
  · go_enter Try.func21, Try.ntmps21
    go_wp2
    go_ret2
    exact ⟨by rw [getM_bad (.inr (by omega))]; rfl, rfl⟩
  have HM := Aside0.mk (getM_good (xs := xs) (by omega) (by omega))
  go_enter Try.func21, Try.ntmps21
  go_wp2
  go_loop [4, 5] (fun v4 v5 => ∃ (k : Nat) (v : Int), k ≤ xs.length ∧ v4 = .int .u64 v ∧ v5 = .int .i64 k ∧ Aside0 (v = getF (xs.take k))) (fun _ v => xs.length - (intOf v).toNat)
  case atStart => exact ⟨0, 0, by omega, rfl, rfl, ⟨rfl⟩⟩
  case round =>
    obtain ⟨k, v, hk, rfl, rfl, HA⟩ := hrel
    by_cases hlt : k < xs.length
    · obtain ⟨ad, e, hcell⟩ := C_byte HR.out hlt
      cases e
      have hb := HX.out.getD k
      obtain ⟨hv0, hv1⟩ : 0 ≤ v ∧ v < 72057594037927936 := by rw [HA.out]; exact getF_small HX.out (by omega) (by omega)
      have HS := Aside0.mk (getF_take xs k hlt)
      obtain ⟨x, hx⟩ : ∃ x, x = xs.getD k 0 := ⟨_, rfl⟩
      rw [← hx] at hb hcell
      have HX' := Aside0.mk hx
      clear hx
      obtain ⟨hb0, hb1⟩ := hb
      go_wp2
      go_round
      case rel => exact ⟨k + 1, 256 * v + x, by omega, by go_num, by go_num, ⟨by rw [HS.out, ← HX'.out, ← HA.out]⟩⟩
      case measure => simp [intOf]; omega
    · obtain rfl : k = xs.length := by omega
      go_wp2
      go_ret2
      refine ⟨?_, rfl⟩
      have := HA.out
      rw [List.take_length] at this
      rw [HM.out, ← this]
      rfl

set_option maxHeartbeats 400000 in
theorem numbers_calls (w : World) (A : Option Addr) (c : Nat) (v n : Int) (xs : List Int) (hv0 : 0 ≤ v) (hv : v < 18446744073709551616) (hr : Kd.C (Kd.int .u8) w A xs.length xs) (hx : Bytes xs) :
    Calls Try.prog 6 #[.int .u64 v, .int .i64 n, .slice A xs.length c] w (Yes w) := by
  have HR := Aside0.mk hr
  have HX := Aside0.mk hx
  clear hr hx
  go_enter Try.func6, Try.ntmps6
  go_wp2_with fail
  refine (put_calls _ v n hv0 hv).mono ?_
  rintro e w1 ⟨r1, rfl, ho1, hb1⟩
  have HO1 := Aside0.mk ho1
  have HB1 := Aside0.mk hb1
  clear ho1 hb1
  go_wp2_with fail
  refine (rput_calls _ v n hv0 hv).mono ?_
  rintro e w2 ⟨r2, rfl, ho2, hb2⟩
  have HO1' := Aside0.mk (HO1.out.below hb2)
  have HO2 := Aside0.mk ho2
  have HB2 := Aside0.mk (HB1.out.trans (hb2.mono HB1.out.size))
  clear ho2 hb2 HO1
  go_wp2_with fail
  refine (get_calls _ A c xs (Kd.C_below HR.out HB2.out) HX.out).mono ?_
  rintro e w3 ⟨rfl, rfl⟩
  go_wp2_with fail
  refine (rget_calls _ A c xs (Kd.C_below HR.out HB2.out) HX.out).mono ?_
  rintro e w3 ⟨rfl, rfl⟩
  go_wp2_with fail
  refine (alive_calls _).mono ?_
  rintro e w4 ⟨rfl, hb4⟩
  have HB4 := Aside0.mk (HB2.out.trans (hb4.mono HB2.out.size))
  have hs1 := (HO1'.out.below hb4).string
  have hs2 := (HO2.out.below hb4).string
  clear hb4
  go_wp2_with fail
  go_ret
  exact ⟨rfl, HB4.out⟩
theorem numbers_row (a0 a1 : Int) (a2 : Option Addr) (len2 cap2 : Nat) (z2 : List Int) (w : World) (w0 : (Lit.int .u64 a0).wf = true) (w1 : (Lit.int .i64 a1).wf = true) (w2 : InRow w a2 len2 cap2 z2) (y2 : len2 * 1 ≤ 140737488351232) :
    Calls Try.prog 6 #[.int .u64 a0, .int .i64 a1, .slice a2 len2 cap2] w fun e w' => e = .returned (.bool true) ∧ Below w.heap.size w w' := by
  obtain ⟨l0, rfl, hr, hx, _⟩ := in_row w2
  have h1 := bounds_u64 w0
  exact numbers_calls w a2 cap2 a0 a1 l0 (by omega) (by omega) hr hx
end Go.Proofs.Ytdagpeencafheaa.Oct
