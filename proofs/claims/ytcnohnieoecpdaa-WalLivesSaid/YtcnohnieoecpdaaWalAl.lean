import Derived.Test.YtcnohnieoecpdaaWalAk
/- WalLives: every input. -/
namespace Go.Proofs.Ytcnohnieoecpdaa.Oct
open Go.RowKit Go.Proofs.YtcnohnieoecpdaaW.PrintWords Go.Proofs.Ytcnohnieoecpdaa.M
set_option linter.unusedVariables false
set_option linter.unusedSimpArgs false
set_option maxRecDepth 200000 in
theorem wlives_long (w : World) (room : Int) (n m : Nat) (A0 A : Option Addr) (c0 c : Nat) (h : 500 < n) : Calls Try.prog 10 #[.int .i64 room, .slice A0 n c0, .slice A m c] w (Yes w) := by
  go_enter Try.func10, Try.ntmps10
  go_wp2_with fail
  refine (alive_calls _).mono ?_
  rintro e w9 ⟨rfl, hb9⟩
  have HB9 := Aside0.mk hb9
  clear hb9
  go_wp2_with fail
  go_ret
  exact ⟨rfl, HB9.out⟩
set_option maxRecDepth 200000 in
theorem wlives_bad (w : World) (room : Int) (n m : Nat) (A0 A : Option Addr) (c0 c : Nat) (hn : n ≤ 500) (h : room < 1 ∨ 65536 < room) : Calls Try.prog 10 #[.int .i64 room, .slice A0 n c0, .slice A m c] w (Yes w) := by
  have HB := Aside0.mk h
  clear h
  go_enter Try.func10, Try.ntmps10
  go_wp2_with fail
  refine (new_bad _ room HB.out).mono ?_
  rintro e w1 ⟨rfl, rfl⟩
  go_wp2_with fail
  refine (rnew_bad _ room HB.out).mono ?_
  rintro e w2 ⟨rfl, rfl⟩
  go_wp2_with fail
  refine (alive_calls _).mono ?_
  rintro e w9 ⟨rfl, hb9⟩
  have HB9 := Aside0.mk hb9
  clear hb9
  go_wp2_with fail
  go_ret
  exact ⟨rfl, HB9.out⟩
theorem wlives_calls (w : World) (room : Int) (first : List Int) (l : List OpW) (A0 A : Option Addr) (c0 c : Nat) (h0 : Kd.C (Kd.int .u8) w A0 first.length first) (hf : Bytes first) (h : wopK.C w A l.length l) (hok : ∀ o ∈ l, OpWOk o) :
    Calls Try.prog 10 #[.int .i64 room, .slice A0 first.length c0, .slice A l.length c] w (Yes w) := by
  by_cases hl : 500 < first.length
  · exact wlives_long w room first.length l.length A0 A c0 c hl
  · by_cases hr : room < 1 ∨ 65536 < room
    · exact wlives_bad w room first.length l.length A0 A c0 c (by omega) hr
    · obtain ⟨m, rfl⟩ := Int.eq_ofNat_of_zero_le (show 0 ≤ room by omega)
      exact wlives_good w m first l A0 A c0 c h0 hf h hok (by omega) (by omega) (by omega)
end Go.Proofs.Ytcnohnieoecpdaa.Oct
