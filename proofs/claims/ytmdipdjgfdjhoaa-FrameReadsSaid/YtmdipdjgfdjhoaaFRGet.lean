import Derived.Test.YtmdipdjgfdjhoaaFGet
namespace Go.Proofs.Ytmdipdjgfdjhoaa.Oct
open Go.RowKit Go.Proofs.YtmdipdjgfdjhoaaW.PrintWords Go.Proofs.Ytmdipdjgfdjhoaa.M
set_option linter.unusedVariables false
set_option linter.unusedSimpArgs false

set_option maxHeartbeats 400000 in
theorem rget_calls (w : World) (A : Option Addr) (c : Nat) (xs : List Int) (hr : Kd.C (Kd.int .u8) w A xs.length xs) (hx : Bytes xs) :
    Calls Try.prog 26 #[.slice A xs.length c] w fun e w' => e = .returned (.tuple #[.int .u64 (getM xs).1, .int .i64 (getM xs).2]) ∧ w' = w := by
  have hlen : xs.length ≤ 9223372036854775807 := hr.2.1
  have HR := Aside0.mk hr
  have HX := Aside0.mk hx
  clear hr hx
  by_cases h1 : (xs.length : Int) = 0
  · have hb1 : ((xs.length : Int) == 0) = true := by simp [h1]
    have H1 := Aside0.mk h1
    clear h1
    go_enter Try.func26, Try.ntmps26
    go_wp2
    go_ret2
    exact ⟨by rw [getM_bad (.inl (by have := H1.out; omega))]; rfl, rfl⟩
  have hb1 : ((xs.length : Int) == 0) = false := by simp only [beq_eq_false_iff_ne]; exact h1
  by_cases h2 : 8 < (xs.length : Int)
  · go_enter Try.func26, Try.ntmps26
    go_wp2
    go_ret2
    exact ⟨by rw [getM_bad (.inr (by omega))]; rfl, rfl⟩
  have HM := Aside0.mk (getM_good (xs := xs) (by omega) (by omega))
  go_enter Try.func26, Try.ntmps26
  go_wp2
  go_loop [4, 5] (fun v4 v5 => ∃ (k : Nat) (v : Int), k ≤ xs.length ∧ v4 = .int .u64 v ∧ v5 = .int .i64 k ∧ Aside0 (v = getF (xs.take k))) (fun _ v => xs.length - (intOf v).toNat)
  case atStart => exact ⟨0, 0, by omega, rfl, rfl, ⟨rfl⟩⟩
  case round =>
    obtain ⟨k, v, hk, rfl, rfl, HA⟩ := hrel
    by_cases hlt : k < xs.length
    · obtain ⟨ad, e, hcell⟩ := C_byte HR.out hlt
      cases e
      have hb := HX.out.getD k
      obtain ⟨hv0, hv1⟩ : 0 ≤ v ∧ v < 72057594037927936 := by rw [HA.out]; exact getF_small HX.out (by omega) (by omega)
      have HS := Aside0.mk (getF_take xs k hlt)
      obtain ⟨x, hx⟩ : ∃ x, x = xs.getD k 0 := ⟨_, rfl⟩
      rw [← hx] at hb hcell
      have HX' := Aside0.mk hx
      clear hx
      obtain ⟨hb0, hb1⟩ := hb
      go_wp2
      go_round
      case rel => exact ⟨k + 1, 256 * v + x, by omega, by go_num, by go_num, ⟨by rw [HS.out, ← HX'.out, ← HA.out]⟩⟩
      case measure => simp [intOf]; omega
    · obtain rfl : k = xs.length := by omega
      go_wp2
      go_ret2
      refine ⟨?_, rfl⟩
      have := HA.out
      rw [List.take_length] at this
      rw [HM.out, ← this]
      rfl

end Go.Proofs.Ytmdipdjgfdjhoaa.Oct
