import Derived.Test.YtcnohnieoecpdaaFRet
namespace Go.Proofs.Ytcnohnieoecpdaa.Oct
open Go.RowKit Go.Proofs.YtcnohnieoecpdaaW.PrintWords Go.Proofs.Ytcnohnieoecpdaa.M
set_option linter.unusedVariables false
set_option linter.unusedSimpArgs false

theorem rput_bad (w : World) (v n : Int) (h : n < 1 ∨ 8 < n) : Calls Try.prog 40 #[.int .u64 v, .int .i64 n] w (RetPut w v n) := by
  have hp : putM v n = ([], 1) := by unfold putM; rw [if_pos h]
  rcases h with h | h
  all_goals
    go_enter Try.func40, Try.ntmps40
    go_wp2
    go_ret2
    exact ⟨.slice none 0 0, by rw [hp]; rfl, by rw [hp]; exact OB.nil _ _, Below.refl _ _⟩

set_option maxHeartbeats 400000 in
theorem rput_good (w : World) (v : Int) (n : Nat) (hv0 : 0 ≤ v) (hv : v < 18446744073709551616) (hn0 : 1 ≤ n) (hn : n ≤ 8) : Calls Try.prog 40 #[.int .u64 v, .int .i64 n] w (RetPut w v n) := by
  have hs := sh_zero v
  have HS := Aside0.mk (fun i => sh_range hv0 hv i)
  have h8 : n = 8 → ¬ 0 < sh v n := by
    rintro rfl
    unfold sh
    omega
  have H8 := Aside0.mk h8
  clear h8
  go_enter Try.func40, Try.ntmps40
  go_wp2
  rw [← hs]
  clear hs hv0 hv
  go_loopw [0, 6, 8] (fun v0 v6 v8 wr => ∃ i : Nat, i ≤ n ∧ v0 = .int .u64 (sh v i) ∧ v8 = .int .i64 i ∧ Aside0 (OB wr w.heap.size v6 (leB v i)) ∧ Aside0 (Below w.heap.size w wr)) (fun _ _ v8 _ => n - (intOf v8).toNat)
  case atStart => exact ⟨0, by omega, rfl, rfl, ⟨OB.nil _ _⟩, ⟨Below.refl _ _⟩⟩
  case round =>
    obtain ⟨i, hi, rfl, rfl, HO, HB⟩ := hrel
    obtain ⟨x, hx⟩ : ∃ x, x = sh v i := ⟨_, rfl⟩
    have hb := HS.out i
    rw [← hx] at hb ⊢
    have HX := Aside0.mk hx
    clear hx
    obtain ⟨hb0, hb1⟩ := hb
    by_cases hlt : i < n
    · have hln := Aside0.mk (leB_length v i)
      have hsc := sh_succ v i
      rw [← HX.out] at hsc
      have HSC := Aside0.mk hsc
      clear hsc
      go_wp2_with ((with_reducible refine gate_dst (N := 26) rfl ?_); at_builtin; refine app_bytes (W0 := w) w.heap.size rfl (.tmp 21) (.tmp 25) rfl _ (leB v i) [x % 256] (some ⟨wr.heap.size, 0, none⟩) 1 1 rfl rfl (HO.out.alloc _) (block_reads [x % 256] (heap_alloc_new wr (.cells (nums .u8 [x % 256]).toArray 5)) (by simp)) (below_alloc HB.out _) (below_alloc HB.out _).size ?aL ?_; (case aL => rw [hln.out]; omega); intro v1 w1 ho hb _ _; have HO1 := Aside0.mk ho; have HB1 := Aside0.mk hb; clear ho hb)
      go_roundw
      case rel => exact ⟨i + 1, by omega, by rw [HSC.out], by go_num, ⟨by rw [leB_succ, ← HX.out]; exact HO1.out⟩, HB1⟩
      case measure => simp [intOf]; omega
    · obtain rfl : i = n := by omega
      by_cases hz : 0 < x
      · have hp : putM v i = ([], 10) := by
          unfold putM
          rw [if_neg (by omega), if_pos]
          have := H8.out
          rw [← HX.out] at this
          have e := HX.out
          unfold sh at e
          rw [Int.toNat_natCast, ← e]
          exact ⟨by omega, hz⟩
        have HP := Aside0.mk hp
        clear hp
        go_wp2
        go_ret2
        exact ⟨.slice none 0 0, by rw [HP.out]; rfl, by rw [HP.out]; exact OB.nil _ _, HB.out⟩
      · have hp : putM v i = (beB v i, 0) := by
          unfold putM
          rw [if_neg (by omega), if_neg, Int.toNat_natCast]
          have e := HX.out
          unfold sh at e
          rw [Int.toNat_natCast, ← e]
          exact fun h => hz h.2
        have HP := Aside0.mk hp
        clear hp
        obtain ⟨A, c, rfl, hr2⟩ := HO.out.reads
        rw [leB_length] at hr2 ⊢
        have HR := Aside0.mk hr2
        clear hr2
        go_wp2
        obtain ⟨wo, rfl⟩ : ∃ wo : World, wo = wr := ⟨_, rfl⟩
        go_loopw [7, 9] (fun v7 v9 wr => ∃ k : Nat, k ≤ i ∧ v9 = .int .i64 ((i : Int) - 1 - k) ∧ Aside0 (OB wr wo.heap.size v7 ((beB v i).take k)) ∧ Aside0 (Below wo.heap.size wo wr)) (fun _ v9 _ => (intOf v9 + 1).toNat)
        case atStart => exact ⟨0, by omega, by go_num, ⟨OB.nil _ _⟩, ⟨Below.refl _ _⟩⟩
        case round =>
          obtain ⟨k, hk, rfl, HO2, HW⟩ := hrel
          have HL := Aside0.mk (beB_length v i)
          by_cases hlt : k < i
          · obtain ⟨ad, e, hcell⟩ := C_byte (Kd.C_below HR.out HW.out) (k := i - 1 - k) (by omega)
            cases e
            have e1 : ((i : Int) - 1 - (k : Int)).toNat = i - 1 - k := by omega
            obtain ⟨y, hy⟩ : ∃ y, y = (leB v i).getD (i - 1 - k) 0 := ⟨_, rfl⟩
            rw [← hy] at hcell
            have HT := Aside0.mk (beB_take v i k hlt)
            have HY := Aside0.mk hy
            clear hy
            go_wp2_with ((with_reducible refine gate_dst (N := 43) rfl ?_); at_builtin; refine app_bytes (W0 := wo) wo.heap.size rfl (.tmp 37) (.tmp 42) rfl _ ((beB v i).take k) [y] (some ⟨wr.heap.size, 0, none⟩) 1 1 rfl rfl (HO2.out.alloc _) (block_reads [y] (heap_alloc_new wr (.cells (nums .u8 [y]).toArray 5)) (by simp)) (below_alloc HW.out _) (below_alloc HW.out _).size ?aL2 ?_; (case aL2 => rw [List.length_take, HL.out]; omega); intro v1 w1 ho hb _ _; have HO1 := Aside0.mk ho; have HB1 := Aside0.mk hb; clear ho hb)
            go_roundw
            case rel => exact ⟨k + 1, by omega, by go_num, ⟨by rw [HT.out, ← HY.out]; exact HO1.out⟩, HB1⟩
            case measure => simp [intOf]; omega
          · obtain rfl : k = i := by omega
            go_wp2
            go_ret2
            refine ⟨_, by rw [HP.out]; rfl, ?_, HB.out.trans (HW.out.mono HB.out.size)⟩
            rw [HP.out]
            have := HO2.out.lower HB.out.size
            rw [List.take_of_length_le (by rw [HL.out]; exact Nat.le_refl _)] at this
            exact this

theorem rput_calls (w : World) (v n : Int) (hv0 : 0 ≤ v) (hv : v < 18446744073709551616) : Calls Try.prog 40 #[.int .u64 v, .int .i64 n] w (RetPut w v n) := by
  by_cases h : n < 1 ∨ 8 < n
  · exact rput_bad w v n h
  · obtain ⟨m, rfl⟩ := Int.eq_ofNat_of_zero_le (show 0 ≤ n by omega)
    exact rput_good w v m hv0 hv (by omega) (by omega)

end Go.Proofs.Ytcnohnieoecpdaa.Oct
