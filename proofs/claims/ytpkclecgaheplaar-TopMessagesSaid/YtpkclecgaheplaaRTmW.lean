import Derived.Test.YtpkclecgaheplaaRTmH
/- psh.Write. -/
namespace Go.Proofs.YtpkclecgaheplaaR.Oct
open Go.RowKit Go.Proofs.YtpkclecgaheplaaRW.PrintWords Go.Proofs.YtpkclecgaheplaaR.M
set_option linter.unusedVariables false
set_option linter.unusedSimpArgs false
def RetPW (w : World) (a : Mg) (e : Ending) (w' : World) : Prop := ∃ A c, e = .returned (.tuple #[.slice A a.bytes.length c, .int .i64 0]) ∧ QB w' w.heap.size (.slice A a.bytes.length c) a.bytes ∧ Below w.heap.size w w'
theorem pwrite_bad (w : World) (a : Mg) (hr : ¬ a.right) : Calls Try.prog 6 #[mgV a] w fun e w' => e = .returned (.tuple #[.slice none 0 0, .int .i64 30]) ∧ Below w.heap.size w w' := by
  have HR := Aside0.mk (fun W => pright_calls W a)
  rw [decide_eq_false hr] at HR
  obtain ⟨k, u, l, s, x, m, y⟩ := a
  obtain ⟨W0, hW0⟩ : ∃ W0, W0 = w.alloc (mgC ⟨k, u, l, s, x, m, y⟩) := ⟨_, rfl⟩
  have hb0 : Below w.heap.size w W0 := by rw [hW0]; exact below_alloc (Below.refl _ _) _
  have hh : W0.heap[w.heap.size]? = some (.cells #[.int .i64 k, .int .i64 u, .int .u32 l, .int .u32 s, .bool x, .int .u32 m, .int .u32 y] 36 (0, 0)) := by rw [hW0]; exact heap_alloc_new w _
  have HB := Aside0.mk hb0
  have HW := Aside0.mk hW0
  obtain ⟨⟨c0, c1, c2, c3, c4, c5, c6⟩, _⟩ := seven_frz hh
  clear hr hW0 hb0 hh
  go_enter Try.func6, Try.ntmps6
  go_wp2_with fail
  rw [← HW.out]
  go_wp2_with fail
  refine (HR.out _).mono ?_
  rintro e w1 ⟨rfl, hb1⟩
  have HB1 := Aside0.mk (HB.out.trans (hb1.mono HB.out.size))
  clear hb1
  go_wp2_with fail
  go_ret2
  exact ⟨rfl, HB1.out⟩
set_option maxRecDepth 20000 in
set_option maxHeartbeats 4000000 in
theorem pwrite_refuse (w : World) (a : Mg) (hr : a.right) (ho : a.ok) (hk : a.k = 13) : Calls Try.prog 6 #[mgV a] w (RetPW w a) := by
  have HOK := Aside0.mk ho
  have HKK := Aside0.mk hk
  obtain ⟨k, u, l, s, x, m, y⟩ := a
  dsimp only at HOK HKK
  have HR := Aside0.mk (fun W => pright_calls W ⟨k, u, l, s, x, m, y⟩)
  have HK : Aside0 (1 ≤ k ∧ k ≤ 13) := ⟨Mg.kind hr⟩
  rw [decide_eq_true hr] at HR
  obtain ⟨d, hd⟩ : ∃ d, d = Mg.data ⟨k, u, l, s, x, m, y⟩ := ⟨_, rfl⟩
  have HDD := Aside0.mk hd
  have HDB : Aside0 (Bytes d) := ⟨by rw [hd]; exact Mg.data_bytes hr⟩
  have HDL : Aside0 (d.length ≤ 10) := ⟨by rw [hd]; exact Mg.data_len _⟩
  have HBL : Aside0 ((Mg.bytes ⟨k, u, l, s, x, m, y⟩).length = 4 + d.length) := ⟨by rw [hd]; exact Mg.bytes_len _⟩
  have HBY : Aside0 (Mg.bytes ⟨k, u, l, s, x, m, y⟩ = gdsB (4864 + k) d) := ⟨by rw [hd]; rfl⟩
  obtain ⟨W0, hW0⟩ : ∃ W0, W0 = w.alloc (mgC ⟨k, u, l, s, x, m, y⟩) := ⟨_, rfl⟩
  have hb0 : Below w.heap.size w W0 := by rw [hW0]; exact below_alloc (Below.refl _ _) _
  have hh : W0.heap[w.heap.size]? = some (.cells #[.int .i64 k, .int .i64 u, .int .u32 l, .int .u32 s, .bool x, .int .u32 m, .int .u32 y] 36 (0, 0)) := by rw [hW0]; exact heap_alloc_new w _
  have HB := Aside0.mk hb0
  have HH := Aside0.mk hh
  have HW := Aside0.mk hW0
  obtain ⟨⟨c0, c1, c2, c3, c4, c5, c6⟩, _⟩ := seven_frz hh
  have g1 : IntKind.i64.wrap (4864 + k) = 4864 + k := IntWalk.i64_in _ (by have := HK.out; omega)
  clear hW0 hb0 hh hd
  have b1 : (k == 12) = false := beq_eq_false_iff_ne.2 (by have := HKK.out; omega)
  have b2 : (k == 13) = true := beq_iff_eq.2 HKK.out
  have HN : Aside0 (d = []) := ⟨by rw [HDD.out]; unfold Mg.data; dsimp only; rw [if_neg (by have := HKK.out; omega), if_pos HKK.out]⟩
  clear hk hr ho
  go_enter Try.func6, Try.ntmps6
  go_wp2_with fail
  rw [← HW.out]
  go_wp2_with fail
  refine (HR.out _).mono ?_
  rintro e w1 ⟨rfl, hb1⟩
  have HB1 := Aside0.mk (HB.out.trans (hb1.mono HB.out.size))
  have HH1 := Aside0.mk (blk_keep HH.out hb1)
  clear hb1 c0 c1 c2 c3 c4 c5 c6
  obtain ⟨⟨c0, c1, c2, c3, c4, c5, c6⟩, _⟩ := seven_frz HH1.out
  obtain ⟨w3, hw3⟩ : ∃ w3, w3 = w1 := ⟨_, rfl⟩
  have HB3 : Aside0 (Below w.heap.size w w3) := ⟨by rw [hw3]; exact HB1.out⟩
  have HQ3 : Aside0 (QB w3 0 (.slice none d.length 0) d) := ⟨by rw [HN.out]; exact QB.nil _ _⟩
  obtain ⟨A3, hA3⟩ : ∃ A3 : Option Addr, A3 = none := ⟨_, rfl⟩
  obtain ⟨c9, hc9⟩ : ∃ c9 : Nat, c9 = 0 := ⟨_, rfl⟩
  go_wp2_with fail
  rw [← hw3]
  have hg := gwrite_calls w3 (4864 + k) none 0 d (QB.C HQ3.out) HDB.out HDL.out (by have := HK.out; omega)
  rw [show d.length = 0 by rw [HN.out]; rfl] at hg
  refine hg.mono ?_
  rintro e w9 ⟨A9, c9, rfl, hq9, hb9⟩
  have HQ9 := Aside0.mk hq9
  have HB9 := Aside0.mk (HB3.out.trans (hb9.mono HB3.out.size))
  have HS3 : Aside0 (w.heap.size ≤ w3.heap.size) := ⟨HB3.out.size⟩
  clear hq9 hb9
  go_wp2_with fail
  go_ret2
  have h0 : (Mg.bytes ⟨k, u, l, s, x, m, y⟩).length = 4 + 0 := by rw [HBL.out, HN.out]; rfl
  refine ⟨A9, c9, ?_, ?_, HB9.out⟩
  · (rw [h0]) <;> rfl
  · rw [h0, HBY.out]
    exact HQ9.out.lower HS3.out
set_option maxRecDepth 20000 in
set_option maxHeartbeats 4000000 in
theorem pwrite_names (w : World) (a : Mg) (hr : a.right) (ho : a.ok) (hk : a.k = 12) : Calls Try.prog 6 #[mgV a] w (RetPW w a) := by
  have HOK := Aside0.mk ho
  have HKK := Aside0.mk hk
  obtain ⟨k, u, l, s, x, m, y⟩ := a
  dsimp only at HOK HKK
  have HR := Aside0.mk (fun W => pright_calls W ⟨k, u, l, s, x, m, y⟩)
  have HK : Aside0 (1 ≤ k ∧ k ≤ 13) := ⟨Mg.kind hr⟩
  rw [decide_eq_true hr] at HR
  obtain ⟨d, hd⟩ : ∃ d, d = Mg.data ⟨k, u, l, s, x, m, y⟩ := ⟨_, rfl⟩
  have HDD := Aside0.mk hd
  have HDB : Aside0 (Bytes d) := ⟨by rw [hd]; exact Mg.data_bytes hr⟩
  have HDL : Aside0 (d.length ≤ 10) := ⟨by rw [hd]; exact Mg.data_len _⟩
  have HBL : Aside0 ((Mg.bytes ⟨k, u, l, s, x, m, y⟩).length = 4 + d.length) := ⟨by rw [hd]; exact Mg.bytes_len _⟩
  have HBY : Aside0 (Mg.bytes ⟨k, u, l, s, x, m, y⟩ = gdsB (4864 + k) d) := ⟨by rw [hd]; rfl⟩
  obtain ⟨W0, hW0⟩ : ∃ W0, W0 = w.alloc (mgC ⟨k, u, l, s, x, m, y⟩) := ⟨_, rfl⟩
  have hb0 : Below w.heap.size w W0 := by rw [hW0]; exact below_alloc (Below.refl _ _) _
  have hh : W0.heap[w.heap.size]? = some (.cells #[.int .i64 k, .int .i64 u, .int .u32 l, .int .u32 s, .bool x, .int .u32 m, .int .u32 y] 36 (0, 0)) := by rw [hW0]; exact heap_alloc_new w _
  have HB := Aside0.mk hb0
  have HH := Aside0.mk hh
  have HW := Aside0.mk hW0
  obtain ⟨⟨c0, c1, c2, c3, c4, c5, c6⟩, _⟩ := seven_frz hh
  have g1 : IntKind.i64.wrap (4864 + k) = 4864 + k := IntWalk.i64_in _ (by have := HK.out; omega)
  clear hW0 hb0 hh hd
  have b1 : (k == 12) = true := beq_iff_eq.2 HKK.out
  have HN : Aside0 (beB m 4 ++ beB y 4 = d) := ⟨by rw [HDD.out]; unfold Mg.data; dsimp only; rw [if_pos HKK.out]⟩
  have hm := HOK.out.2.2.2.2.1
  have hy := HOK.out.2.2.2.2.2
  dsimp only at hm hy
  have g2 : IntKind.u64.wrap m = m := by rw [IntKind.wrap_u64]; omega
  have g3 : IntKind.u64.wrap y = y := by rw [IntKind.wrap_u64]; omega
  have HP1 := Aside0.mk (fun W => put_calls W m 4 hm.1 (by omega))
  have HP2 := Aside0.mk (fun W => put_calls W y 4 hy.1 (by omega))
  have HM1 := Aside0.mk (putM_four hm.1 hm.2)
  have HM2 := Aside0.mk (putM_four hy.1 hy.2)
  clear hk hr ho hm hy
  go_enter Try.func6, Try.ntmps6
  go_wp2_with fail
  rw [← HW.out]
  go_wp2_with fail
  refine (HR.out _).mono ?_
  rintro e w1 ⟨rfl, hb1⟩
  have HB1 := Aside0.mk (HB.out.trans (hb1.mono HB.out.size))
  have HH1 := Aside0.mk (blk_keep HH.out hb1)
  clear hb1 c0 c1 c2 c3 c4 c5 c6
  obtain ⟨⟨c0, c1, c2, c3, c4, c5, c6⟩, _⟩ := seven_frz HH1.out
  go_wp2_with fail
  refine (HP1.out _).mono ?_
  rintro e w2 ⟨r2, rfl, ho2, hb2⟩
  rw [HM1.out] at ho2
  rw [HM1.out]
  obtain ⟨A2, d2, rfl, _⟩ := ho2.reads
  rw [beB_length] at ho2
  rw [beB_length]
  have HO2 := Aside0.mk ho2
  have HB2 := Aside0.mk (HB1.out.trans (hb2.mono HB1.out.size))
  have HH2 := Aside0.mk (blk_keep HH1.out hb2)
  have HS1 : Aside0 (w.heap.size ≤ w1.heap.size) := ⟨HB1.out.size⟩
  have HS12 : Aside0 (w1.heap.size ≤ w2.heap.size) := ⟨hb2.size⟩
  clear hb2 ho2 c0 c1 c2 c3 c4 c5 c6
  obtain ⟨⟨c0, c1, c2, c3, c4, c5, c6⟩, _⟩ := seven_frz HH2.out
  go_wp2_with fail
  refine (HP2.out _).mono ?_
  rintro e w4 ⟨r4, rfl, ho4, hb4⟩
  rw [HM2.out] at ho4
  rw [HM2.out]
  obtain ⟨A4, d4, rfl, _⟩ := ho4.reads
  rw [beB_length] at ho4
  rw [beB_length]
  have HO4 := Aside0.mk ho4
  have HO24 := Aside0.mk (HO2.out.below hb4)
  have HB4 := Aside0.mk (HB2.out.trans (hb4.mono HB2.out.size))
  have HH4 := Aside0.mk (blk_keep HH2.out hb4)
  have HS2 : Aside0 (w1.heap.size ≤ w4.heap.size) := ⟨Nat.le_trans HS12.out hb4.size⟩
  clear hb4 ho4 c0 c1 c2 c3 c4 c5 c6
  obtain ⟨⟨c0, c1, c2, c3, c4, c5, c6⟩, _⟩ := seven_frz HH4.out
  go_wp2_with (at_builtin; refine app_q w1.heap.size rfl (.tmp 44) (.tmp 45) rfl (.slice A2 4 d2) (beB m 4) (beB y 4) A4 4 d4 (by rw [beB_length]) rfl rfl (QB.of_OB HO24.out) (by have := (QB.of_OB HO4.out).C; exact this) HS2.out (by rw [beB_length, beB_length]; decide) ?_; intro v3 w3 hq hg hn; have hbb : w.heap.size ≤ w4.heap.size := HB4.out.size; have HB3 : Aside0 (Below w.heap.size w w3) := ⟨HB4.out.grown hg hbb (fun k e => Nat.le_trans HS1.out ((QB.of_OB HO24.out).block e).1)⟩; have HH3 : Aside0 (w3.heap[w.heap.size]? = w4.heap[w.heap.size]?) := ⟨hg.block _ (Array.getElem?_eq_some_iff.1 HH4.out).1 (fun e => OwnAt.ne (QB.of_OB HO24.out) e.symm HH4.out (by decide) rfl)⟩; rw [HN.out] at hq; obtain ⟨A3, c3', rfl, _⟩ := hq.form; have HQ3 := Aside0.mk hq; clear hq hg hn hbb c0 c1 c2 c3 c4 c5 c6; obtain ⟨⟨c0, c1, c2, c3, c4, c5, c6⟩, _⟩ := seven_frz (HH3.out.trans HH4.out))
  refine (gwrite_calls _ (4864 + k) A3 c3' d (QB.C HQ3.out) HDB.out HDL.out (by have := HK.out; omega)).mono ?_
  rintro e w9 ⟨A9, c9, rfl, hq9, hb9⟩
  have HQ9 := Aside0.mk hq9
  have HB9 := Aside0.mk (HB3.out.trans (hb9.mono HB3.out.size))
  have HS3 : Aside0 (w.heap.size ≤ w3.heap.size) := ⟨HB3.out.size⟩
  clear hq9 hb9
  go_wp2_with fail
  go_ret2
  refine ⟨A9, c9, ?_, ?_, HB9.out⟩
  · (rw [HBL.out]) <;> rfl
  · rw [HBL.out, HBY.out]
    exact HQ9.out.lower HS3.out
set_option maxRecDepth 20000 in
set_option maxHeartbeats 4000000 in
theorem pwrite_work (w : World) (a : Mg) (hr : a.right) (ho : a.ok) (hk : a.k ≠ 12) (hk' : a.k ≠ 13) : Calls Try.prog 6 #[mgV a] w (RetPW w a) := by
  have HOK := Aside0.mk ho
  have HKK := Aside0.mk (And.intro hk hk')
  obtain ⟨k, u, l, s, x, m, y⟩ := a
  dsimp only at HOK HKK
  have HR := Aside0.mk (fun W => pright_calls W ⟨k, u, l, s, x, m, y⟩)
  have HK : Aside0 (1 ≤ k ∧ k ≤ 13) := ⟨Mg.kind hr⟩
  rw [decide_eq_true hr] at HR
  obtain ⟨d, hd⟩ : ∃ d, d = Mg.data ⟨k, u, l, s, x, m, y⟩ := ⟨_, rfl⟩
  have HDD := Aside0.mk hd
  have HDB : Aside0 (Bytes d) := ⟨by rw [hd]; exact Mg.data_bytes hr⟩
  have HDL : Aside0 (d.length ≤ 10) := ⟨by rw [hd]; exact Mg.data_len _⟩
  have HBL : Aside0 ((Mg.bytes ⟨k, u, l, s, x, m, y⟩).length = 4 + d.length) := ⟨by rw [hd]; exact Mg.bytes_len _⟩
  have HBY : Aside0 (Mg.bytes ⟨k, u, l, s, x, m, y⟩ = gdsB (4864 + k) d) := ⟨by rw [hd]; rfl⟩
  obtain ⟨W0, hW0⟩ : ∃ W0, W0 = w.alloc (mgC ⟨k, u, l, s, x, m, y⟩) := ⟨_, rfl⟩
  have hb0 : Below w.heap.size w W0 := by rw [hW0]; exact below_alloc (Below.refl _ _) _
  have hh : W0.heap[w.heap.size]? = some (.cells #[.int .i64 k, .int .i64 u, .int .u32 l, .int .u32 s, .bool x, .int .u32 m, .int .u32 y] 36 (0, 0)) := by rw [hW0]; exact heap_alloc_new w _
  have HB := Aside0.mk hb0
  have HH := Aside0.mk hh
  have HW := Aside0.mk hW0
  obtain ⟨⟨c0, c1, c2, c3, c4, c5, c6⟩, _⟩ := seven_frz hh
  have g1 : IntKind.i64.wrap (4864 + k) = 4864 + k := IntWalk.i64_in _ (by have := HK.out; omega)
  clear hW0 hb0 hh hd
  have b1 : (k == 12) = false := beq_eq_false_iff_ne.2 HKK.out.1
  have b2 : (k == 13) = false := beq_eq_false_iff_ne.2 HKK.out.2
  have HLP : Aside0 (luwP u s) := ⟨by
    rcases hr with h | h | h
    · exact absurd h.1 HKK.out.1
    · exact absurd h.1 HKK.out.2
    · exact h.2.1⟩
  have HN : Aside0 (rawB u l s ++ [if x then 1 else 0] = d) := ⟨by rw [HDD.out]; unfold Mg.data; dsimp only; rw [if_neg HKK.out.1, if_neg HKK.out.2]⟩
  have HLW := Aside0.mk (fun W => lwrite_calls W u l s HLP.out HOK.out.2.2.1 HOK.out.2.2.2.1)
  clear hk hk' hr ho
  go_enter Try.func6, Try.ntmps6
  go_wp2_with fail
  rw [← HW.out]
  go_wp2_with fail
  refine (HR.out _).mono ?_
  rintro e w1 ⟨rfl, hb1⟩
  have HB1 := Aside0.mk (HB.out.trans (hb1.mono HB.out.size))
  have HH1 := Aside0.mk (blk_keep HH.out hb1)
  clear hb1 c0 c1 c2 c3 c4 c5 c6
  obtain ⟨⟨c0, c1, c2, c3, c4, c5, c6⟩, _⟩ := seven_frz HH1.out
  go_wp2_with fail
  refine (HLW.out _).mono ?_
  rintro e w2 ⟨A2, rfl, ho2, hb2⟩
  have HO2 := Aside0.mk ho2
  have HB2 := Aside0.mk (HB1.out.trans (hb2.mono HB1.out.size))
  have HH2 := Aside0.mk (blk_keep HH1.out hb2)
  have HS1 : Aside0 (w.heap.size ≤ w1.heap.size) := ⟨HB1.out.size⟩
  have HS12 : Aside0 (w1.heap.size ≤ w2.heap.size) := ⟨hb2.size⟩
  clear hb2 ho2 c0 c1 c2 c3 c4 c5 c6
  obtain ⟨⟨c0, c1, c2, c3, c4, c5, c6⟩, _⟩ := seven_frz HH2.out
  cases x
  · go_wp2_with (at_builtin; refine app_q w1.heap.size rfl (.tmp 25) (.tmp 26) rfl (.slice A2 9 9) (rawB u l s) [0] (some ⟨w2.heap.size, 0, none⟩) 1 1 rfl rfl rfl ((QB.of_OB HO2.out).below (below_alloc (Below.refl _ _) _)) (block_reads [0] (heap_alloc_new w2 (.cells (nums .u8 [0]).toArray 5)) (by simp)) (by have := HS12.out; simp; omega) (by rw [rawB_len]; decide) ?_; intro v3 w3 hq hg hn; have hbb : w.heap.size ≤ w2.heap.size := HB2.out.size; have HB3 : Aside0 (Below w.heap.size w w3) := ⟨(below_alloc HB2.out _).grown hg (below_alloc HB2.out _).size (fun k e => Nat.le_trans HS1.out ((QB.of_OB HO2.out).block e).1)⟩; have HH3 : Aside0 (w3.heap[w.heap.size]? = w2.heap[w.heap.size]?) := ⟨(hg.block _ (Nat.lt_of_lt_of_le (Array.getElem?_eq_some_iff.1 HH2.out).1 (by simp)) (fun e => OwnAt.ne (QB.of_OB HO2.out) e.symm HH2.out (by decide) rfl)).trans (Below.heap_alloc _ _ _ (Array.getElem?_eq_some_iff.1 HH2.out).1)⟩; have hq := (show QB w3 w1.heap.size v3 d from HN.out ▸ hq); obtain ⟨A3, c3', rfl, _⟩ := hq.form; have HQ3 := Aside0.mk hq; clear hq hg hn hbb c0 c1 c2 c3 c4 c5 c6; obtain ⟨⟨c0, c1, c2, c3, c4, c5, c6⟩, _⟩ := seven_frz (HH3.out.trans HH2.out))
    refine (gwrite_calls _ (4864 + k) A3 c3' d (QB.C HQ3.out) HDB.out HDL.out (by have := HK.out; omega)).mono ?_
    rintro e w9 ⟨A9, c9, rfl, hq9, hb9⟩
    have HQ9 := Aside0.mk hq9
    have HB9 := Aside0.mk (HB3.out.trans (hb9.mono HB3.out.size))
    have HS3 : Aside0 (w.heap.size ≤ w3.heap.size) := ⟨HB3.out.size⟩
    clear hq9 hb9
    go_wp2_with fail
    go_ret2
    refine ⟨A9, c9, ?_, ?_, HB9.out⟩
    · (rw [HBL.out]) <;> rfl
    · rw [HBL.out, HBY.out]
      exact HQ9.out.lower HS3.out
  · go_wp2_with (at_builtin; refine app_q w1.heap.size rfl (.tmp 22) (.tmp 23) rfl (.slice A2 9 9) (rawB u l s) [1] (some ⟨w2.heap.size, 0, none⟩) 1 1 rfl rfl rfl ((QB.of_OB HO2.out).below (below_alloc (Below.refl _ _) _)) (block_reads [1] (heap_alloc_new w2 (.cells (nums .u8 [1]).toArray 5)) (by simp)) (by have := HS12.out; simp; omega) (by rw [rawB_len]; decide) ?_; intro v3 w3 hq hg hn; have hbb : w.heap.size ≤ w2.heap.size := HB2.out.size; have HB3 : Aside0 (Below w.heap.size w w3) := ⟨(below_alloc HB2.out _).grown hg (below_alloc HB2.out _).size (fun k e => Nat.le_trans HS1.out ((QB.of_OB HO2.out).block e).1)⟩; have HH3 : Aside0 (w3.heap[w.heap.size]? = w2.heap[w.heap.size]?) := ⟨(hg.block _ (Nat.lt_of_lt_of_le (Array.getElem?_eq_some_iff.1 HH2.out).1 (by simp)) (fun e => OwnAt.ne (QB.of_OB HO2.out) e.symm HH2.out (by decide) rfl)).trans (Below.heap_alloc _ _ _ (Array.getElem?_eq_some_iff.1 HH2.out).1)⟩; have hq := (show QB w3 w1.heap.size v3 d from HN.out ▸ hq); obtain ⟨A3, c3', rfl, _⟩ := hq.form; have HQ3 := Aside0.mk hq; clear hq hg hn hbb c0 c1 c2 c3 c4 c5 c6; obtain ⟨⟨c0, c1, c2, c3, c4, c5, c6⟩, _⟩ := seven_frz (HH3.out.trans HH2.out))
    refine (gwrite_calls _ (4864 + k) A3 c3' d (QB.C HQ3.out) HDB.out HDL.out (by have := HK.out; omega)).mono ?_
    rintro e w9 ⟨A9, c9, rfl, hq9, hb9⟩
    have HQ9 := Aside0.mk hq9
    have HB9 := Aside0.mk (HB3.out.trans (hb9.mono HB3.out.size))
    have HS3 : Aside0 (w.heap.size ≤ w3.heap.size) := ⟨HB3.out.size⟩
    clear hq9 hb9
    go_wp2_with fail
    go_ret2
    refine ⟨A9, c9, ?_, ?_, HB9.out⟩
    · (rw [HBL.out]) <;> rfl
    · rw [HBL.out, HBY.out]
      exact HQ9.out.lower HS3.out
theorem pwrite_calls (w : World) (a : Mg) (hr : a.right) (ho : a.ok) : Calls Try.prog 6 #[mgV a] w (RetPW w a) := by
  by_cases h : a.k = 12
  · exact pwrite_names w a hr ho h
  by_cases h' : a.k = 13
  · exact pwrite_refuse w a hr ho h'
  · exact pwrite_work w a hr ho h h'
end Go.Proofs.YtpkclecgaheplaaR.Oct
