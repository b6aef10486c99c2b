import Derived.Test.YtpkclecgaheplaaRMem
namespace Go.Proofs.YtpkclecgaheplaaR.Oct
open Go.RowKit Go.Proofs.YtpkclecgaheplaaRW.PrintWords Go.Proofs.YtpkclecgaheplaaR.M
set_option linter.unusedVariables false
set_option linter.unusedSimpArgs false

theorem u64_orb {v x : Int} (h0 : 0 ≤ v) (h : v < 72057594037927936) (hx0 : 0 ≤ x) (hx : x < 256) : Go.bits .or .u64 (v * 256) x = v * 256 + x :=
  bits_join .u64 64 (by decide) (fun n h0 h1 => by simp [IntKind.wrap, IntKind.bits, IntKind.signed]; omega) 8 _ _ (by omega) (by omega) (by omega) hx0 (by omega) (by omega)

theorem getM_bad {xs : List Int} (h : xs.length < 1 ∨ 8 < xs.length) : getM xs = (0, 1) := by unfold getM; rw [if_pos h]

theorem getM_good {xs : List Int} (h1 : 1 ≤ xs.length) (h2 : xs.length ≤ 8) : getM xs = (getF xs, 0) := by unfold getM; rw [if_neg (by omega)]

set_option maxHeartbeats 400000 in
theorem get_calls (w : World) (A : Option Addr) (c : Nat) (xs : List Int) (hr : Kd.C (Kd.int .u8) w A xs.length xs) (hx : Bytes xs) :
    Calls Try.prog 29 #[.slice A xs.length c] w fun e w' => e = .returned (.tuple #[.int .u64 (getM xs).1, .int .i64 (getM xs).2]) ∧ w' = w := by
  have hlen : xs.length ≤ 9223372036854775807 := hr.2.1
  have HR := Aside0.mk hr
  have HX := Aside0.mk hx
  clear hr hx
  by_cases h1 : (xs.length : Int) < 1
  · go_enter Try.func29, Try.ntmps29
    go_wp2
    go_ret2
    exact ⟨by rw [getM_bad (.inl (by omega))]; rfl, rfl⟩
  by_cases h2 : 8 < (xs.length : Int)
  · go_enter Try.func29, Try.ntmps29
    go_wp2
    go_ret2
    exact ⟨by rw [getM_bad (.inr (by omega))]; rfl, rfl⟩
  have HM := Aside0.mk (getM_good (xs := xs) (by omega) (by omega))
  go_enter Try.func29, Try.ntmps29
  go_wp2
  go_loop [4, 6, 17] (fun v4 _ v17 => ∃ (k : Nat) (v : Int), k ≤ xs.length ∧ v4 = .int .u64 v ∧ v17 = .int .i64 k ∧ Aside0 (v = getF (xs.take k))) (fun _ _ v => xs.length - (intOf v).toNat)
  case atStart => exact ⟨0, 0, by omega, rfl, rfl, ⟨rfl⟩⟩
  case round =>
    obtain ⟨k, v, hk, rfl, rfl, HA⟩ := hrel
    by_cases hlt : k < xs.length
    · obtain ⟨ad, e, hcell⟩ := C_byte HR.out hlt
      cases e
      have hb := HX.out.getD k
      obtain ⟨hv0, hv1⟩ : 0 ≤ v ∧ v < 72057594037927936 := by rw [HA.out]; exact getF_small HX.out (by omega) (by omega)
      have HS := Aside0.mk (getF_take xs k hlt)
      obtain ⟨x, hx⟩ : ∃ x, x = xs.getD k 0 := ⟨_, rfl⟩
      rw [← hx] at hb hcell
      have HX' := Aside0.mk hx
      clear hx
      obtain ⟨hb0, hb1⟩ := hb
      have hor := u64_orb hv0 hv1 hb0 hb1
      go_wp2
      go_round
      case rel => exact ⟨k + 1, v * 256 + x, by omega, by go_num, by go_num, ⟨by rw [HS.out, ← HX'.out, ← HA.out, Int.mul_comm]⟩⟩
      case measure => simp [intOf]; omega
    · obtain rfl : k = xs.length := by omega
      go_wp2
      go_ret2
      refine ⟨?_, rfl⟩
      have := HA.out
      rw [List.take_length] at this
      rw [HM.out, ← this]
      rfl

end Go.Proofs.YtpkclecgaheplaaR.Oct
