import Derived.Test.YtcnohnieoecpdaaFSum
namespace Go.Proofs.Ytcnohnieoecpdaa.Oct
open Go.RowKit Go.Proofs.YtcnohnieoecpdaaW.PrintWords Go.Proofs.Ytcnohnieoecpdaa.M
set_option linter.unusedVariables false
set_option linter.unusedSimpArgs false

set_option maxHeartbeats 400000 in
theorem rsum_calls (w : World) (A : Option Addr) (c : Nat) (xs : List Int) (hr : Kd.C (Kd.int .u8) w A xs.length xs) (hx : Bytes xs) :
    Calls Try.prog 41 #[.slice A xs.length c] w fun e w' => e = .returned (.int .u32 (sumOf xs)) ∧ w' = w := by
  have hlen : xs.length ≤ 9223372036854775807 := hr.2.1
  have HR := Aside0.mk hr
  have HX := Aside0.mk hx
  clear hr hx
  go_enter Try.func41, Try.ntmps41
  go_wp2
  go_loop [3, 4, 5] (fun v3 v4 v5 => ∃ (k : Nat) (a c : Int), k ≤ xs.length ∧ v3 = .int .i64 a ∧ v4 = .int .i64 c ∧ v5 = .int .i64 k ∧ Aside0 ((a, c) = sumP (xs.take k))) (fun _ _ v => xs.length - (intOf v).toNat)
  case atStart => exact ⟨0, 1, 0, by omega, rfl, rfl, rfl, ⟨rfl⟩⟩
  case round =>
    obtain ⟨k, a, c, hk, rfl, rfl, rfl, HA⟩ := hrel
    have HG := Aside0.mk (sumP_range (xs.take k))
    obtain ⟨⟨ha0, ha1⟩, hc0, hc1⟩ : (0 ≤ a ∧ a < 65521) ∧ 0 ≤ c ∧ c < 65521 := by have := HG.out; rw [← HA.out] at this; exact this
    by_cases hlt : k < xs.length
    · obtain ⟨ad, e, hcell⟩ := C_byte HR.out hlt
      cases e
      have hb := HX.out.getD k
      have HS := Aside0.mk (sumP_take xs k hlt)
      obtain ⟨x, hx⟩ : ∃ x, x = xs.getD k 0 := ⟨_, rfl⟩
      rw [← hx] at hb hcell
      have HX' := Aside0.mk hx
      clear hx
      obtain ⟨hb0, hb1⟩ := hb
      go_wp2
      go_round
      case rel => 
        refine ⟨k + 1, stepS (a, c) x |>.1, stepS (a, c) x |>.2, by omega, ?_, ?_, by go_num, ⟨by rw [HS.out, ← HX'.out, ← HA.out]⟩⟩
        · unfold stepS; congr 1
        · unfold stepS; congr 1
      case measure => simp [intOf]; omega
    · obtain rfl : k = xs.length := by omega
      go_wp2
      go_ret
      refine ⟨?_, rfl⟩
      show Ending.returned (.int .u32 (65536 * c + a)) = _
      unfold sumOf
      have := HA.out
      rw [List.take_length] at this
      rw [← this]
      dsimp only
      rw [Int.mul_comm 65536 c]

end Go.Proofs.Ytcnohnieoecpdaa.Oct
