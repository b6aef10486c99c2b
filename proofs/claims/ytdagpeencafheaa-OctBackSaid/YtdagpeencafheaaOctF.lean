import Derived.Test.YtdagpeencafheaaOctE
namespace Go.Proofs.Ytdagpeencafheaa.Oct
open Go.RowKit Go.Proofs.YtdagpeencafheaaW.PrintWords Go.Proofs.Ytdagpeencafheaa.M
set_option linter.unusedVariables false
set_option linter.unusedSimpArgs false
set_option maxHeartbeats 400000 in
theorem rsum_calls (w : World) (A : Option Addr) (c : Nat) (xs : List Int) (hr : Kd.C (Kd.int .u8) w A xs.length xs) (hx : Bytes xs) :
    Calls Try.prog 15 #[.slice A xs.length c] w fun e w' => e = .returned (.int .u32 (sumOf xs)) ∧ w' = w := by
  have hlen : xs.length ≤ 9223372036854775807 := hr.2.1
  have HR := Aside0.mk hr
  have HX := Aside0.mk hx
  clear hr hx
  go_enter Try.func15, Try.ntmps15
  go_wp2
  go_loop [3, 4, 5] (fun v3 v4 v5 => ∃ (k : Nat) (a c : Int), k ≤ xs.length ∧ v3 = .int .i64 a ∧ v4 = .int .i64 c ∧ v5 = .int .i64 k ∧ Aside0 ((a, c) = sumP (xs.take k))) (fun _ _ v => xs.length - (intOf v).toNat)
  case atStart => exact ⟨0, 1, 0, by omega, rfl, rfl, rfl, ⟨rfl⟩⟩
  case round =>
    obtain ⟨k, a, c, hk, rfl, rfl, rfl, HA⟩ := hrel
    have HG := Aside0.mk (sumP_range (xs.take k))
    obtain ⟨⟨ha0, ha1⟩, hc0, hc1⟩ : (0 ≤ a ∧ a < 65521) ∧ 0 ≤ c ∧ c < 65521 := by have := HG.out; rw [← HA.out] at this; exact this
    by_cases hlt : k < xs.length
    · obtain ⟨ad, e, hcell⟩ := C_byte HR.out hlt
      cases e
      have hb := HX.out.getD k
      have HS := Aside0.mk (sumP_take xs k hlt)
      obtain ⟨x, hx⟩ : ∃ x, x = xs.getD k 0 := ⟨_, rfl⟩
      rw [← hx] at hb hcell
      have HX' := Aside0.mk hx
      clear hx
      obtain ⟨hb0, hb1⟩ := hb
      go_wp2
      go_round
      case rel => 
        refine ⟨k + 1, stepS (a, c) x |>.1, stepS (a, c) x |>.2, by omega, ?_, ?_, by go_num, ⟨by rw [HS.out, ← HX'.out, ← HA.out]⟩⟩
        · unfold stepS; congr 1
        · unfold stepS; congr 1
      case measure => simp [intOf]; omega
    · obtain rfl : k = xs.length := by omega
      go_wp2
      go_ret
      refine ⟨?_, rfl⟩
      show Ending.returned (.int .u32 (65536 * c + a)) = _
      unfold sumOf
      have := HA.out
      rw [List.take_length] at this
      rw [← this]
      dsimp only
      rw [Int.mul_comm 65536 c]

theorem mul_small {a b : Int} (ha0 : 0 ≤ a) (ha : a < 65521) (hb0 : 0 ≤ b) (hb : b < 65521) : 0 ≤ a * b ∧ a * b ≤ 4292870400 :=
  ⟨Int.mul_nonneg ha0 hb0, Int.le_trans (Int.mul_le_mul (Int.le_of_lt_add_one (b := 65520) (by omega)) (Int.le_of_lt_add_one (b := 65520) (by omega)) hb0 (by decide)) (by decide)⟩
theorem u64_or {c a : Int} (hc0 : 0 ≤ c) (hc : c < 65536) (ha0 : 0 ≤ a) (ha : a < 65536) : Go.bits .or .u64 (c * 65536) a = c * 65536 + a :=
  bits_join .u64 33 (by decide) (fun n h0 h1 => by simp [IntKind.wrap, IntKind.bits, IntKind.signed]; omega) 16 _ _ (by omega) (by omega) (by omega) ha0 (by omega) (by omega)
theorem u32_low {x : Int} (hx0 : 0 ≤ x) (hx : x < 4294967296) : Go.bits .and .u32 x 65535 = x % 65536 :=
  bits_mask .u32 32 (by decide) (fun n h0 h1 => by rw [IntKind.wrap_u32]; omega) 16 (by decide) x hx0 (by omega)
theorem ret_u32 {a b : Int} (h : a = b) : Ending.returned (.int .u32 a) = .returned (.int .u32 b) := by rw [h]

set_option maxHeartbeats 400000 in
theorem both_calls (w : World) (x y n : Int) (hx0 : 0 ≤ x) (hx : x < 4294967296) (hy0 : 0 ≤ y) (hy : y < 4294967296) (hn : n < 9223372036854775808) :
    Calls Try.prog 16 #[.int .u32 x, .int .u32 y, .int .i64 n] w fun e w' => e = .returned (.int .u32 (bothM x y n)) ∧ w' = w := by
  have ha := u32_low hx0 hx
  have hb := u32_low hy0 hy
  by_cases h : n < 0
  · have hor := u64_or (c := (x / 65536 + y / 65536) % 65521) (a := (x % 65536 + y % 65536 + 65521 - 1) % 65521) (by omega) (by omega) (by omega) (by omega)
    go_enter Try.func16, Try.ntmps16
    go_wp2
    go_ret
    refine ⟨ret_u32 ?_, rfl⟩
    unfold bothM
    rw [if_pos h]
    omega
  · obtain ⟨hp0, hp1⟩ := mul_small (a := n % 65521) (b := (x % 65536 + 65521 - 1) % 65521) (by omega) (by omega) (by omega) (by omega)
    have hor := u64_or (c := (x / 65536 + y / 65536 + n % 65521 * ((x % 65536 + 65521 - 1) % 65521)) % 65521) (a := (x % 65536 + y % 65536 + 65521 - 1) % 65521) (by omega) (by omega) (by omega) (by omega)
    go_enter Try.func16, Try.ntmps16
    go_wp2
    go_ret
    refine ⟨ret_u32 ?_, rfl⟩
    unfold bothM
    rw [if_neg (by omega)]
    have e1 : x % 65536 + 65521 - 1 = x % 65536 + 65520 := by omega
    rw [e1] at *
    generalize n % 65521 * ((x % 65536 + 65520) % 65521) = P at *
    omega
theorem rboth_calls (w : World) (x y n : Int) (hx0 : 0 ≤ x) (hx : x < 4294967296) (hy0 : 0 ≤ y) (hy : y < 4294967296) (hn : n < 9223372036854775808) :
    Calls Try.prog 17 #[.int .u32 x, .int .u32 y, .int .i64 n] w fun e w' => e = .returned (.int .u32 (bothM x y n)) ∧ w' = w := by
  by_cases h : n < 0
  · go_enter Try.func17, Try.ntmps17
    go_wp2
    go_ret
    refine ⟨ret_u32 ?_, rfl⟩
    unfold bothM
    rw [if_pos h]
    omega
  · obtain ⟨hp0, hp1⟩ := mul_small (a := n % 65521) (b := (x % 65536 + 65520) % 65521) (by omega) (by omega) (by omega) (by omega)
    go_enter Try.func17, Try.ntmps17
    go_wp2
    go_ret
    refine ⟨ret_u32 ?_, rfl⟩
    unfold bothM
    rw [if_neg (by omega)]
    generalize n % 65521 * ((x % 65536 + 65520) % 65521) = P at *
    omega

set_option maxHeartbeats 400000 in
theorem sums_calls (w : World) (A : Option Addr) (c : Nat) (xs : List Int) (x y n : Int) (hr : Kd.C (Kd.int .u8) w A xs.length xs) (hb : Bytes xs) (hx0 : 0 ≤ x) (hx : x < 4294967296) (hy0 : 0 ≤ y) (hy : y < 4294967296) (hn : n < 9223372036854775808) :
    Calls Try.prog 4 #[.slice A xs.length c, .int .u32 x, .int .u32 y, .int .i64 n] w (Yes w) := by
  have HR := Aside0.mk hr
  have HX := Aside0.mk hb
  have hlen : xs.length ≤ 9223372036854775807 := hr.2.1
  clear hr hb
  by_cases h1 : 5000 < (xs.length : Int)
  · go_enter Try.func4, Try.ntmps4
    go_wp2_with (go_at_call 12; refine (alive_calls _).mono ?_; rintro e w1 ⟨rfl, hb⟩)
    go_ret
    exact ⟨rfl, hb⟩
  go_enter Try.func4, Try.ntmps4
  go_wp2_with (go_at_call 12; refine (alive_calls _).mono ?_; rintro e w1 ⟨rfl, hb⟩; have HB := Aside0.mk hb; clear hb)
  refine (sum_calls _ _ _ xs (Kd.C_below HR.out HB.out) HX.out).mono ?_
  rintro e w2 ⟨rfl, rfl⟩
  go_wp2_with fail
  refine (rsum_calls _ _ _ xs (Kd.C_below HR.out HB.out) HX.out).mono ?_
  rintro e w2 ⟨rfl, rfl⟩
  go_wp2_with fail
  refine (both_calls _ x y n hx0 hx hy0 hy hn).mono ?_
  rintro e w2 ⟨rfl, rfl⟩
  go_wp2_with fail
  refine (rboth_calls _ x y n hx0 hx hy0 hy hn).mono ?_
  rintro e w2 ⟨rfl, rfl⟩
  go_wp2_with fail
  go_ret
  exact ⟨rfl, HB.out⟩
theorem sums_row (a0 : Option Addr) (len0 cap0 : Nat) (z0 : List Int) (a1 a2 a3 : Int) (w : World) (w0 : InRow w a0 len0 cap0 z0) (y0 : len0 * 1 ≤ 140737488351232) (w1 : (Lit.int .u32 a1).wf = true) (w2 : (Lit.int .u32 a2).wf = true) (w3 : (Lit.int .i64 a3).wf = true) :
    Calls Try.prog 4 #[.slice a0 len0 cap0, .int .u32 a1, .int .u32 a2, .int .i64 a3] w fun e w' => e = .returned (.bool true) ∧ Below w.heap.size w w' := by
  obtain ⟨l0, rfl, hr, hx, _⟩ := in_row w0
  have h1 := bounds_u32 w1
  have h2 := bounds_u32 w2
  have h3 := bounds_i64 w3
  exact sums_calls w a0 cap0 l0 a1 a2 a3 hr hx (by omega) (by omega) (by omega) (by omega) (by omega)

set_option maxHeartbeats 400000 in
theorem pieces_calls (w : World) (A B : Option Addr) (c d : Nat) (xs ys : List Int) (hr : Kd.C (Kd.int .u8) w A xs.length xs) (hb : Bytes xs) (hr2 : Kd.C (Kd.int .u8) w B ys.length ys) (hb2 : Bytes ys) :
    Calls Try.prog 5 #[.slice A xs.length c, .slice B ys.length d] w (Yes w) := by
  have HR := Aside0.mk hr
  have HX := Aside0.mk hb
  have HR2 := Aside0.mk hr2
  have HX2 := Aside0.mk hb2
  have hlen : xs.length ≤ 9223372036854775807 := hr.2.1
  have hlen2 : ys.length ≤ 9223372036854775807 := hr2.2.1
  clear hr hb hr2 hb2
  by_cases h1 : 3000 < (xs.length : Int)
  · go_enter Try.func5, Try.ntmps5
    go_wp2_with (go_at_call 12; refine (alive_calls _).mono ?_; rintro e w1 ⟨rfl, hb⟩)
    go_ret
    exact ⟨rfl, hb⟩
  by_cases h2 : 3000 < (ys.length : Int)
  · go_enter Try.func5, Try.ntmps5
    go_wp2_with (go_at_call 12; refine (alive_calls _).mono ?_; rintro e w1 ⟨rfl, hb⟩)
    go_ret
    exact ⟨rfl, hb⟩
  go_enter Try.func5, Try.ntmps5
  go_wp2_with (first | ((with_reducible refine gate_dst (N := 17) rfl ?_); at_builtin; refine app_bytes (W0 := w) w.heap.size rfl (.tmp 15) (.tmp 16) rfl (.slice none 0 0) [] xs A xs.length c rfl rfl (OB.nil _ _) HR.out (Below.refl _ _) (Nat.le_refl _) ?aL ?_; (case aL => first | omega | (simp; omega)); intro v1 w1 ho hb _ _; rw [List.nil_append] at ho; have HO := Aside0.mk ho; have HB := Aside0.mk hb; clear ho hb) | ((with_reducible refine gate_dst (N := 20) rfl ?_); at_builtin; refine app_bytes (W0 := w) w.heap.size rfl (.tmp 18) (.tmp 19) rfl v1 xs ys B ys.length d rfl rfl HO.out (Kd.C_below HR2.out HB.out) HB.out HB.out.size ?aL2 ?_; (case aL2 => first | omega | (simp; omega)); intro v2 w2 ho hb _ _; have HO2 := Aside0.mk ho; have HB2 := Aside0.mk hb; clear ho hb))
  refine (alive_calls _).mono ?_
  rintro e w3 ⟨rfl, hb3⟩
  have HB3 := Aside0.mk (HB2.out.trans (hb3.mono HB2.out.size))
  have hO3 := HO2.out.below hb3
  clear hb3 HO2
  obtain ⟨zs, hzs⟩ : ∃ zs, zs = xs ++ ys := ⟨_, rfl⟩
  rw [← hzs] at hO3
  have HZ := Aside0.mk hzs
  clear hzs
  obtain ⟨A3, c3, rfl, hr3⟩ := hO3.reads
  have HR3 := Aside0.mk hr3
  clear hr3 hO3
  go_wp2_with fail
  refine (sum_calls _ _ _ zs HR3.out (by rw [HZ.out]; exact HX.out.append HX2.out)).mono ?_
  rintro e w4 ⟨rfl, rfl⟩
  go_wp2_with fail
  refine (sum_calls _ _ _ xs (Kd.C_below HR.out HB3.out) HX.out).mono ?_
  rintro e w4 ⟨rfl, rfl⟩
  go_wp2_with fail
  refine (sum_calls _ _ _ ys (Kd.C_below HR2.out HB3.out) HX2.out).mono ?_
  rintro e w4 ⟨rfl, rfl⟩
  go_wp2_with fail
  refine (both_calls _ (sumOf xs) (sumOf ys) _ (sumOf_range xs).1 (sumOf_range xs).2 (sumOf_range ys).1 (sumOf_range ys).2 (by omega)).mono ?_
  rintro e w4 ⟨rfl, rfl⟩
  rw [← sumOf_append, ← HZ.out]
  go_wp2_with fail
  go_ret
  exact ⟨rfl, HB3.out⟩
theorem pieces_row (a0 : Option Addr) (len0 cap0 : Nat) (z0 : List Int) (a1 : Option Addr) (len1 cap1 : Nat) (z1 : List Int) (w : World) (w0 : InRow w a0 len0 cap0 z0) (y0 : len0 * 1 ≤ 140737488351232) (w1 : InRow w a1 len1 cap1 z1) (y1 : len1 * 1 ≤ 140737488351232) :
    Calls Try.prog 5 #[.slice a0 len0 cap0, .slice a1 len1 cap1] w fun e w' => e = .returned (.bool true) ∧ Below w.heap.size w w' := by
  obtain ⟨l0, rfl, hr, hx, _⟩ := in_row w0
  obtain ⟨l1, rfl, hr1, hx1, _⟩ := in_row w1
  exact pieces_calls w a0 a1 cap0 cap1 l0 l1 hr hx hr1 hx1
end Go.Proofs.Ytdagpeencafheaa.Oct
