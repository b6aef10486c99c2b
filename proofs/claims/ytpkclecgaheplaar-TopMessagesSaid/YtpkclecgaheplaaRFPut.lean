import Derived.Test.YtpkclecgaheplaaRFRet
namespace Go.Proofs.YtpkclecgaheplaaR.Oct
open Go.RowKit Go.Proofs.YtpkclecgaheplaaRW.PrintWords Go.Proofs.YtpkclecgaheplaaR.M
set_option linter.unusedVariables false
set_option linter.unusedSimpArgs false


theorem put_bad (w : World) (v n : Int) (h : n < 1 ∨ 8 < n) : Calls Try.prog 16 #[.int .u64 v, .int .i64 n] w (RetPut w v n) := by
  have hp : putM v n = ([], 1) := by unfold putM; rw [if_pos h]
  rcases h with h | h
  all_goals
    go_enter Try.func16, Try.ntmps16
    go_wp2
    go_ret2
    exact ⟨.slice none 0 0, by rw [hp]; rfl, by rw [hp]; exact OB.nil _ _, Below.refl _ _⟩

theorem put_wide (w : World) (v : Int) (n : Nat) (hn0 : 1 ≤ n) (hn : n < 8) (h : 0 < v / 2 ^ (8 * n)) : Calls Try.prog 16 #[.int .u64 v, .int .i64 n] w (RetPut w v n) := by
  have hp : putM v n = ([], 10) := by unfold putM; rw [if_neg (by omega), if_pos ⟨by omega, by rw [Int.toNat_natCast]; exact h⟩]
  go_enter Try.func16, Try.ntmps16
  go_wp2
  go_ret2
  exact ⟨.slice none 0 0, by rw [hp]; rfl, by rw [hp]; exact OB.nil _ _, Below.refl _ _⟩

set_option maxHeartbeats 400000 in
theorem put_fits (w : World) (v : Int) (n : Nat) (hn0 : 1 ≤ n) (hn : n ≤ 8) (h : (n < 8 ∧ ¬ 0 < v / 2 ^ (8 * n)) ∨ n = 8) : Calls Try.prog 16 #[.int .u64 v, .int .i64 n] w (RetPut w v n) := by
  have hp : putM v n = (beB v n, 0) := by
    unfold putM
    rw [if_neg (by omega), if_neg, Int.toNat_natCast]
    rintro ⟨h1, h2⟩
    rw [Int.toNat_natCast] at h2
    rcases h with h | h
    · exact h.2 h2
    · omega
  have HP := Aside0.mk hp
  clear hp
  have hmk := print_make 28 5 .u8 1 Try.underlying28 info_u8 (by omega) n (by omega)
  rcases h with ⟨h1, h2⟩ | h
  all_goals
    try (have H8 := Aside0.mk h; have h8 : ¬ (n : Int) < 8 := by omega
         clear h)
    go_enter Try.func16, Try.ntmps16
    go_wp2
    clear hmk
    go_loopw [7, 27] (fun _ v27 wr => ∃ (i : Nat), i ≤ n ∧ v27 = .int .i64 i ∧ Aside0 (OB wr w.heap.size (.slice (some ⟨w.heap.size, 0, none⟩) n n) (bePart v n i)) ∧ Aside0 (Below w.heap.size w wr)) (fun _ v _ => n - (intOf v).toNat)
    case atStart =>
      refine ⟨0, by omega, rfl, ⟨?_⟩, ⟨below_alloc (Below.refl _ _) _⟩⟩
      have := own_made w w.heap.size 5 .u8 n (Nat.le_refl _) (by omega)
      unfold OB
      rw [bePart_length, bePart_zero]
      exact this
    case round =>
      obtain ⟨i, hi, rfl, HO, HB⟩ := hrel
      by_cases hlt : i < n
      · have hbl := bePart_length v n i
        have HO' : wr.ownsRow w.heap.size 5 1 (.slice (some ⟨w.heap.size, 0, none⟩) n n) n (nums .u8 (bePart v n i)) := by have := HO.out; unfold OB at this; rw [hbl] at this; exact this
        have hput := own_store HO' ((n - 1 - i : Nat) : Int) (v / 2 ^ (8 * i) % 256)
        obtain ⟨hc, hf⟩ := own_at HO' ((n - 1 - i : Nat) : Int) (by omega) (by omega)
        rw [Int.toNat_natCast] at hc hf hput
        rw [bePart_step v n i hlt] at hput
        have HPUT := Aside0.mk hput
        have HBL := Aside0.mk hbl
        have HOw := Aside0.mk HO'
        clear hput hbl HO'
        have e1 : ((n : Int) - 1 - (i : Int)).toNat = n - 1 - i := by omega
        go_wp2
        refine ⟨⟨i + 1, by omega, by go_num, ⟨?_⟩, ⟨HB.out.setCell (Nat.le_refl _) _⟩⟩, by simp [intOf]; omega⟩
        have := HPUT.out.1
        unfold OB
        rw [bePart_length]
        exact this
      · obtain rfl : i = n := by omega
        go_wp2
        go_ret2
        refine ⟨_, by rw [HP.out]; rfl, ?_, HB.out⟩
        rw [HP.out, ← bePart_full v i]
        have := HO.out
        exact this

theorem put_calls (w : World) (v n : Int) (hv0 : 0 ≤ v) (hv : v < 18446744073709551616) : Calls Try.prog 16 #[.int .u64 v, .int .i64 n] w (RetPut w v n) := by
  by_cases h : n < 1 ∨ 8 < n
  · exact put_bad w v n h
  · obtain ⟨m, rfl⟩ := Int.eq_ofNat_of_zero_le (show 0 ≤ n by omega)
    by_cases h8 : m < 8
    · by_cases h2 : 0 < v / 2 ^ (8 * m)
      · exact put_wide w v m (by omega) h8 h2
      · exact put_fits w v m (by omega) (by omega) (.inl ⟨h8, h2⟩)
    · exact put_fits w v m (by omega) (by omega) (.inr (by omega))

end Go.Proofs.YtpkclecgaheplaaR.Oct
