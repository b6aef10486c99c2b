import Derived.Test.YtdagpeencafheaaOctH
namespace Go.Proofs.Ytdagpeencafheaa.Oct
open Go.RowKit Go.Proofs.YtdagpeencafheaaW.PrintWords Go.Proofs.Ytdagpeencafheaa.M
set_option linter.unusedVariables false
set_option linter.unusedSimpArgs false
theorem ret_u8 {a b : Int} (h : a = b) : Ending.returned (.int .u8 a) = .returned (.int .u8 b) := by rw [h]
theorem digit_calls (w : World) (c : Int) (h0 : 0 ≤ c) (h1 : c < 256) : Calls Try.prog 33 #[.int .u8 c] w fun e w' => e = .returned (.int .u8 (dig c)) ∧ w' = w := by
  by_cases a1 : 48 ≤ c
  · by_cases a2 : c ≤ 57
    · go_enter Try.func33, Try.ntmps33
      go_wp2
      go_ret
      exact ⟨ret_u8 (by unfold dig; rw [if_pos ⟨a1, a2⟩]), rfl⟩
    · by_cases a3 : 97 ≤ c
      · by_cases a4 : c ≤ 102
        · go_enter Try.func33, Try.ntmps33
          go_wp2
          go_ret
          exact ⟨ret_u8 (by unfold dig; rw [if_neg (by omega), if_pos ⟨a3, a4⟩]), rfl⟩
        · go_enter Try.func33, Try.ntmps33
          go_wp2
          go_ret
          exact ⟨ret_u8 (by unfold dig; rw [if_neg (by omega), if_neg (by omega)]), rfl⟩
      · go_enter Try.func33, Try.ntmps33
        go_wp2
        go_ret
        exact ⟨ret_u8 (by unfold dig; rw [if_neg (by omega), if_neg (by omega)]), rfl⟩
  · have a3 : ¬ 97 ≤ c := by omega
    go_enter Try.func33, Try.ntmps33
    go_wp2
    go_ret
    exact ⟨ret_u8 (by unfold dig; rw [if_neg (by omega), if_neg (by omega)]), rfl⟩

/-- 'return d' at a digit's place, 'return -1' behind the last one -/
theorem worth_of (c : Int) (k : Nat) (hk : k < 16) (h : hexD k = c) : worthM c = k := by
  unfold hexD at h
  have : dig c = k := by
    unfold dig
    split at h
    · rw [if_pos (by omega)]; omega
    · rw [if_neg (by omega), if_pos (by omega)]; omega
  unfold worthM
  rw [this, if_neg (by omega)]
theorem worth_none (c : Int) (h : ∀ k : Nat, k < 16 → hexD k ≠ c) : worthM c = -1 := by
  unfold worthM
  rw [if_pos]
  unfold dig
  split
  · exact absurd (show hexD ((c - 48).toNat : Int) = c by unfold hexD; rw [if_pos (by omega)]; omega) (h (c - 48).toNat (by omega))
  · split
    · exact absurd (show hexD ((c - 87).toNat : Int) = c by unfold hexD; rw [if_neg (by omega)]; omega) (h (c - 87).toNat (by omega))
    · rfl
set_option maxHeartbeats 400000 in
theorem worth_calls (w : World) (c : Int) : Calls Try.prog 34 #[.int .u8 c] w fun e w' => e = .returned (.int .i64 (worthM c)) ∧ w' = w := by
  go_enter Try.func34, Try.ntmps34
  go_wp2
  go_loop [4] (fun v4 => ∃ k : Nat, k ≤ 16 ∧ v4 = .int .i64 k ∧ Aside0 (∀ j : Nat, j < k → hexD j ≠ c)) (fun v => 16 - (intOf v).toNat)
  case atStart => exact ⟨0, by omega, rfl, ⟨fun j hj => absurd hj (by omega)⟩⟩
  case round =>
    obtain ⟨k, hk, rfl, HA⟩ := hrel
    by_cases hlt : k < 16
    · have hd := hex_at (k : Int) (by omega) (by omega)
      simp only [Int.toNat_natCast] at hd
      obtain ⟨x, hx⟩ : ∃ x, x = hexD (k : Int) := ⟨_, rfl⟩
      rw [← hx] at hd
      have HX := Aside0.mk hx
      clear hx
      by_cases he : x = c
      · have hb : (x == c) = true := beq_iff_eq.2 he
        have HE := Aside0.mk he
        clear he
        go_wp2
        go_ret
        refine ⟨?_, rfl⟩
        rw [worth_of c k hlt (by rw [← HX.out]; exact HE.out)]
        rfl
      · have hb : (x == c) = false := beq_eq_false_iff_ne.2 he
        go_wp2
        go_round
        case rel =>
          refine ⟨k + 1, by omega, by go_num, ⟨fun j hj => ?_⟩⟩
          rcases Nat.lt_or_ge j k with h | h
          · exact HA.out j h
          · obtain rfl : j = k := by omega
            rw [← HX.out]; exact he
        case measure => simp [intOf]; omega
    · obtain rfl : k = 16 := by omega
      go_wp2
      go_ret
      refine ⟨?_, rfl⟩
      rw [worth_none c (fun k hk => HA.out k hk)]
      rfl
end Go.Proofs.Ytdagpeencafheaa.Oct
