import Derived.Test.YtpkclecgaheplaaRMem
namespace Go.Proofs.YtpkclecgaheplaaR.Oct
open Go.RowKit Go.Proofs.YtpkclecgaheplaaRW.PrintWords Go.Proofs.YtpkclecgaheplaaR.M
set_option linter.unusedVariables false
set_option linter.unusedSimpArgs false

theorem u32_or {c a : Int} (hc0 : 0 ≤ c) (hc : c < 65536) (ha0 : 0 ≤ a) (ha : a < 65536) : Go.bits .or .u32 (c * 65536) a = c * 65536 + a := by
  exact bits_join .u32 32 (by decide) (fun n h0 h1 => by rw [IntKind.wrap_u32]; omega) 16 _ _ (by omega) (by omega) (by omega) ha0 (by omega) (by omega)

set_option maxHeartbeats 400000 in
theorem sum_calls (w : World) (A : Option Addr) (c : Nat) (xs : List Int) (hr : Kd.C (Kd.int .u8) w A xs.length xs) (hx : Bytes xs) :
    Calls Try.prog 21 #[.slice A xs.length c] w fun e w' => e = .returned (.int .u32 (sumOf xs)) ∧ w' = w := by
  have hlen : xs.length ≤ 9223372036854775807 := hr.2.1
  have HR := Aside0.mk hr
  have HX := Aside0.mk hx
  clear hr hx
  go_enter Try.func21, Try.ntmps21
  go_wp2
  go_loop [3, 4, 9] (fun v3 v4 v9 => ∃ (k : Nat) (a c : Int), k ≤ xs.length ∧ v3 = .int .u32 a ∧ v4 = .int .u32 c ∧ v9 = .int .i64 k ∧ Aside0 ((a, c) = sumP (xs.take k))) (fun _ _ v => xs.length - (intOf v).toNat)
  case atStart => exact ⟨0, 1, 0, by omega, rfl, rfl, rfl, ⟨rfl⟩⟩
  case round =>
    obtain ⟨k, a, c, hk, rfl, rfl, rfl, HA⟩ := hrel
    have HG := Aside0.mk (sumP_range (xs.take k))
    obtain ⟨⟨ha0, ha1⟩, hc0, hc1⟩ : (0 ≤ a ∧ a < 65521) ∧ 0 ≤ c ∧ c < 65521 := by have := HG.out; rw [← HA.out] at this; exact this
    by_cases hlt : k < xs.length
    · obtain ⟨ad, e, hcell⟩ := C_byte HR.out hlt
      cases e
      have hb := HX.out.getD k
      have HS := Aside0.mk (sumP_take xs k hlt)
      obtain ⟨x, hx⟩ : ∃ x, x = xs.getD k 0 := ⟨_, rfl⟩
      rw [← hx] at hb hcell
      have HX' := Aside0.mk hx
      clear hx
      obtain ⟨hb0, hb1⟩ := hb
      go_wp2
      go_round
      case rel => 
        refine ⟨k + 1, stepS (a, c) x |>.1, stepS (a, c) x |>.2, by omega, ?_, ?_, by go_num, ⟨by rw [HS.out, ← HX'.out, ← HA.out]⟩⟩
        · unfold stepS; congr 1
        · unfold stepS; congr 1
      case measure => simp [intOf]; omega
    · have hk' : k = xs.length := by omega
      subst hk'
      go_wp2
      go_ret
      refine ⟨?_, rfl⟩
      show Ending.returned (.int .u32 _) = _
      rw [u32_or hc0 (by omega) ha0 (by omega)]
      unfold sumOf
      have := HA.out
      rw [List.take_length] at this
      rw [← this]

end Go.Proofs.YtpkclecgaheplaaR.Oct
