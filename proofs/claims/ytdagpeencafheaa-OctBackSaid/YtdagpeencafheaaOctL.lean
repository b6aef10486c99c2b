import Derived.Test.YtdagpeencafheaaOctK
namespace Go.Proofs.Ytdagpeencafheaa.Oct
open Go.RowKit Go.Proofs.YtdagpeencafheaaW.PrintWords Go.Proofs.Ytdagpeencafheaa.M
set_option linter.unusedVariables false
set_option linter.unusedSimpArgs false
theorem worth_good {c : Int} (h : dig c ≠ 16) : worthM c = dig c ∧ 0 ≤ worthM c ∧ worthM c < 16 := by
  have := dig_range c
  unfold worthM
  rw [if_neg h]
  omega
theorem worth_bad {c : Int} (h : dig c = 16) : worthM c = -1 := by unfold worthM; rw [if_pos h]
set_option maxHeartbeats 1600000 in
theorem runhex_calls (w : World) (s : ByteArray) (hlen : s.size ≤ 1000000) : Calls Try.prog 25 #[.string s] w (RetU w (unhexM (bytesOf s))) := by
  have hl := bytesOf_length s
  obtain ⟨l, hle⟩ : ∃ l, l = bytesOf s := ⟨_, rfl⟩
  rw [← hle] at hl ⊢
  have HL := Aside0.mk hl
  have HLE := Aside0.mk hle
  have HX : Aside0 (Bytes l) := ⟨by rw [hle]; exact bytesOf_bytes s⟩
  have HS : Aside0 (∀ k : Nat, ∀ h : k < s.size, ((s[k]'h).toNat : Int) = l.getD k 0) := ⟨by rw [hle]; exact str_at s⟩
  clear hl hle
  go_enter Try.func25, Try.ntmps25
  go_wp2
  obtain ⟨w0, hw0⟩ : ∃ w0, w0 = w.alloc (.cells #[.int .i64 0, .int .i64 0] 42) := ⟨_, rfl⟩
  have hz : w0.heap.size = w.heap.size + 1 := by rw [hw0]; simp
  have hbl : w0.heap[w.heap.size]? = some (.cells #[.int .i64 0, .int .i64 0] 42 (0, 0)) := by rw [hw0]; exact heap_alloc_new w _
  have hb0 : Below w.heap.size w w0 := by rw [hw0]; exact below_alloc (Below.refl _ _) _
  rw [← hw0]
  have HZ := Aside0.mk hz
  have HBL := Aside0.mk hbl
  have HB0 := Aside0.mk hb0
  obtain ⟨c0, c1, f0, f1⟩ := two_cells hbl (W' := w0)
  clear hw0 hz hbl hb0
  go_loop [4] (fun v4 => ∃ k : Nat, k ≤ s.size ∧ v4 = .int .i64 k ∧ Aside0 (∀ j, j < k → dig (l.getD j 0) ≠ 16)) (fun v => s.size - (intOf v).toNat)
  case atStart => exact ⟨0, by omega, rfl, ⟨fun j hj => absurd hj (by omega)⟩⟩
  case round =>
    obtain ⟨k, hk, rfl, HG⟩ := hrel
    by_cases hlt : k < s.size
    · have hsi := HS.out k
      have hb := HX.out.getD k
      obtain ⟨x, hx⟩ : ∃ x, x = l.getD k 0 := ⟨_, rfl⟩
      rw [← hx] at hsi hb
      have HX' := Aside0.mk hx
      clear hx
      go_wp2_with fail
      refine (worth_calls _ x).mono ?_
      rintro e w1 ⟨rfl, rfl⟩
      by_cases he : dig x = 16
      · have HM := Aside0.mk (unhexM_bad (l := l) (i := k) (by rw [HL.out]; exact hlt) HG.out (by rw [← HX'.out]; exact he))
        rw [worth_bad he]
        clear he
        go_wp2
        refine bodyPost_ret (v := .tuple #[.slice none 0 0, .agg #[.int .i64 k, .int .i64 3]]) (by simp [results, Try.results25, go_sem, c0, c1, f0, f1]) rfl ?_
        refine ⟨.slice none 0 0, by rw [HM.out], by rw [HM.out]; exact OB.nil _ _, ?_⟩
        exact (HB0.out.setCell (Nat.le_refl _) _).setCell (Nat.le_refl _) _
      · obtain ⟨_, hw0, hw1⟩ := worth_good he
        have hgood : ∀ j, j < k + 1 → dig (l.getD j 0) ≠ 16 := by
          intro j hj
          rcases Nat.lt_or_ge j k with h | h
          · exact HG.out j h
          · obtain rfl : j = k := by omega
            rw [← HX'.out]; exact he
        have HGOOD := Aside0.mk hgood
        clear he hgood
        obtain ⟨q, hq⟩ : ∃ q, q = worthM x := ⟨_, rfl⟩
        rw [← hq] at hw0 hw1 ⊢
        clear hq
        go_wp2
        go_round
        case rel => exact ⟨k + 1, by omega, by go_num, HGOOD⟩
        case measure => simp [intOf]; omega
    · obtain rfl : k = s.size := by omega
      have HG' : Aside0 (∀ j, j < l.length → dig (l.getD j 0) ≠ 16) := ⟨by rw [HL.out]; exact HG.out⟩
      by_cases hp : s.size % 2 = 1
      · have hpb : ((s.size : Int) % 2 == 1) = true := by rw [beq_iff_eq]; omega
        have HM := Aside0.mk (unhexM_odd HG'.out (by rw [HL.out]; exact hp))
        have HP := Aside0.mk hp
        clear hp
        go_wp2
        refine bodyPost_ret (v := .tuple #[.slice none 0 0, .agg #[.int .i64 s.size, .int .i64 3]]) (by simp [results, Try.results25, go_sem, c0, c1, f0, f1]) rfl ?_
        refine ⟨.slice none 0 0, by rw [HM.out, HL.out], by rw [HM.out]; exact OB.nil _ _, ?_⟩
        exact (HB0.out.setCell (Nat.le_refl _) _).setCell (Nat.le_refl _) _
      · have hpb : ((s.size : Int) % 2 == 1) = false := by rw [beq_eq_false_iff_ne]; omega
        have HM := Aside0.mk (unhexM_good HG'.out (by rw [HL.out]; exact hp))
        have HP := Aside0.mk (show s.size % 2 = 0 by omega)
        clear hp
        go_wp2
        clear c0 c1 f0 f1
        go_loopw [5, 6] (fun v5 v6 wr => ∃ k : Nat, k ≤ s.size ∧ v6 = .int .i64 k ∧ Aside0 (k % 2 = 0) ∧ Aside0 (OB wr w0.heap.size v5 (unB l k)) ∧ Aside0 (Below w0.heap.size w0 wr)) (fun _ v _ => s.size - (intOf v).toNat)
        case atStart => exact ⟨0, by omega, rfl, ⟨rfl⟩, ⟨OB.nil _ _⟩, ⟨Below.refl _ _⟩⟩
        case round =>
          obtain ⟨k, hk, rfl, HE, HO, HB⟩ := hrel
          by_cases hlt : k < s.size
          · have hlt2 : k + 1 < s.size := by have := HP.out; have := HE.out; omega
            have hsi := HS.out k
            have hsi2 := HS.out (k + 1)
            have HBx := Aside0.mk (HX.out.getD k)
            have HBy := Aside0.mk (HX.out.getD (k + 1))
            have hgx := HG.out k hlt
            have hgy := HG.out (k + 1) hlt2
            have HU := Aside0.mk (unB_pair l k HE.out)
            have HUL := Aside0.mk (unB_length l k)
            obtain ⟨x, hx⟩ : ∃ x, x = l.getD k 0 := ⟨_, rfl⟩
            obtain ⟨y, hy⟩ : ∃ y, y = l.getD (k + 1) 0 := ⟨_, rfl⟩
            rw [← hx] at hsi HBx hgx HU
            rw [← hy] at hsi2 HBy hgy HU
            obtain ⟨hwx, hwx0, hwx1⟩ := worth_good hgx
            obtain ⟨hwy, hwy0, hwy1⟩ := worth_good hgy
            have HWX := Aside0.mk hwx
            have HWY := Aside0.mk hwy
            clear hx hy hgx hgy hwx hwy
            have k0 : (0 : Int) ≤ (k : Int) := by omega
            have k1 : (k : Int) < (s.size : Int) := by omega
            have k2 : (0 : Int) ≤ (k : Int) + 1 := by omega
            have k3 : (k : Int) + 1 < (s.size : Int) := by omega
            have k4 : IntKind.i64.wrap ((k : Int) + 1) = (k : Int) + 1 := IntWalk.i64_in _ (by omega)
            have k4' : wrap64 ((k : Int) + 1) = (k : Int) + 1 := IntWalk.wrap64_in _ (by omega)
            have k5 : ((k : Int) + 1).toNat = k + 1 := by omega
            have q1 : IntKind.i64.wrap (16 * worthM x) = 16 * worthM x := IntWalk.i64_in _ (by omega)
            have q1' : wrap64 (16 * worthM x) = 16 * worthM x := IntWalk.wrap64_in _ (by omega)
            have q2 : IntKind.i64.wrap (16 * worthM x + worthM y) = 16 * worthM x + worthM y := IntWalk.i64_in _ (by omega)
            have q2' : wrap64 (16 * worthM x + worthM y) = 16 * worthM x + worthM y := IntWalk.wrap64_in _ (by omega)
            have q3 : (16 * worthM x + worthM y) % 256 = 16 * worthM x + worthM y := by omega
            have q3' : IntKind.u8.wrap (16 * worthM x + worthM y) = 16 * worthM x + worthM y := by rw [IntKind.wrap_u8]; omega
            go_wp2_with fail
            go_region_held3 (fun _ => True) (first | trivial | exact fun _ _ => trivial)
              (first | (go_at_call 34; refine (worth_calls _ _).mono ?_; rintro e w1 ⟨rfl, rfl⟩) | (refine step_lit (W0 := w0) w0.heap.size rfl (.tmp 33) (.tmp 46) rfl u5 (unB l k) [16 * worthM x + worthM y] wr.heap.size rfl rfl ?a4 ?a7 ?a8 ?a9 ?a12 ?a11 ?_; (case a4 => exact ((HO.out.alloc _).drew)); (case a7 => exact heap_alloc_new wr _); (case a8 => simp); (case a9 => exact below_drew (below_alloc HB.out _)); (case a11 => rw [HUL.out]; simp; omega); (case a12 => simp; have := HB.out.size; omega); intro v1 w1 ho1 hb1 hgr1))
            all_goals
              have HO1 : Aside0 (OB w1 w0.heap.size v1 (unB l (k + 2))) := ⟨by rw [HU.out, ← HWX.out, ← HWY.out]; exact ho1⟩
              have HB1 := Aside0.mk hb1
              have HE2 : Aside0 ((k + 2) % 2 = 0) := ⟨by have := HE.out; omega⟩
              clear ho1 hb1 hgr1 q1 q1' q2 q2' q3 q3' k4 k4' k5
              go_wp2
              go_roundw
              case rel => exact ⟨k + 2, by omega, by go_num, HE2, HO1, HB1⟩
              case measure => simp [intOf]; omega
          · obtain rfl : k = s.size := by omega
            have hbl : wr.heap[w.heap.size]? = some (.cells #[.int .i64 0, .int .i64 0] 42 (0, 0)) := by rw [HB.out.block _ (by rw [HZ.out]; omega)]; exact HBL.out
            obtain ⟨c0, c1, f0, f1⟩ := two_cells hbl (W' := wr)
            clear hbl
            go_wp2
            refine bodyPost_ret (v := .tuple #[u5, .agg #[.int .i64 0, .int .i64 0]]) (by simp [results, Try.results25, go_sem, c0, c1, f0, f1]) rfl ?_
            refine ⟨u5, by rw [HM.out], ?_, ?_⟩
            · rw [HM.out, HL.out]
              exact own_far2 (HO.out.lower HB0.out.size) HO.out HZ.out
            · exact ((HB0.out.trans (HB.out.mono HB0.out.size)).setCell (Nat.le_refl _) _).setCell (Nat.le_refl _) _
end Go.Proofs.Ytdagpeencafheaa.Oct
