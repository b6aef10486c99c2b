import Derived.Test.YtcicehldhelmbaaTapeS
namespace Go.Proofs.Ytcicehldhelmbaa.Oct
open Go.RowKit Go.Proofs.YtcicehldhelmbaaW.PrintWords Go.Proofs.Ytcicehldhelmbaa.M
set_option linter.unusedVariables false
set_option linter.unusedSimpArgs false
theorem lives_bad (w : World) (room : Int) (l : List OpS) (A : Option Addr) (c : Nat) (hll : l.length ≤ 9223372036854775807) (h : room < 1 ∨ 65536 < room) :
    Calls Try.prog 3 #[.int .i64 room, .slice A l.length c] w (Yes w) := by
  have HB := Aside0.mk h
  clear h
  go_enter Try.func3, Try.ntmps3
  go_wp2_with fail
  refine (new_bad _ room HB.out).mono ?_
  rintro e w1 ⟨rfl, rfl⟩
  go_wp2_with fail
  refine (rnew_bad _ room HB.out).mono ?_
  rintro e w2 ⟨rfl, rfl⟩
  go_wp2_with fail
  go_loopw [9, 10, 11] (fun v9 _ _ wr => v9 = .int .i64 0 ∧ wr = w2) (fun _ _ _ _ => 0)
  case atStart => exact ⟨rfl, rfl⟩
  case round =>
    obtain ⟨rfl, rfl⟩ := hrel
    rcases Nat.eq_zero_or_pos l.length with h0 | h0
    · have h0' : ¬ (0 : Int) < (l.length : Int) := by omega
      go_wp2_with fail
      refine (alive_calls _).mono ?_
      rintro e w3 ⟨rfl, hb3⟩
      have HB3 := Aside0.mk hb3
      clear hb3
      go_wp2_with fail
      go_ret
      exact ⟨rfl, HB3.out⟩
    · have h0' : (0 : Int) < (l.length : Int) := by omega
      go_wp2_with fail
      refine (alive_calls _).mono ?_
      rintro e w3 ⟨rfl, hb3⟩
      have HB3 := Aside0.mk hb3
      clear hb3
      go_wp2_with fail
      go_ret
      exact ⟨rfl, HB3.out⟩
theorem lives_calls (w : World) (room : Int) (l : List OpS) (A : Option Addr) (c : Nat) (h : opK.C w A l.length l) (ho : ∀ o ∈ l, OpG o) :
    Calls Try.prog 3 #[.int .i64 room, .slice A l.length c] w (Yes w) := by
  by_cases hr : room < 1 ∨ 65536 < room
  · exact lives_bad w room l A c h.2.1 hr
  · obtain ⟨m, rfl⟩ := Int.eq_ofNat_of_zero_le (show 0 ≤ room by omega)
    exact lives_good w m l A c h (fun o h => op_good (ho o h)) (fun o h => bytes_len (ho o h).2.2.2) (by omega) (by omega)
end Go.Proofs.Ytcicehldhelmbaa.Oct
