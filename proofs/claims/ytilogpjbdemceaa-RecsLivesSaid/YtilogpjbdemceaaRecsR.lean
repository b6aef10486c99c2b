import Derived.Test.YtilogpjbdemceaaRecsQ
namespace Go.Proofs.Ytilogpjbdemceaa.Oct
open Go.RowKit Go.Proofs.YtilogpjbdemceaaW.PrintWords Go.Proofs.Ytilogpjbdemceaa.M
set_option linter.unusedVariables false
set_option linter.unusedSimpArgs false
set_option maxHeartbeats 4000000 in
/-- at a record's beginning -/
theorem xget_at (w : World) (x L a m : Nat) (n : Int) (held : List Int) (ended : Bool) (F : Nat → Prop) (h : RefAt w x ⟨0, held, ended⟩ F L) (hL : L ≤ 140737488355328) (hn : ¬ n < 1) (h2 : ¬ held.length < 2) (hle : a = (SS.mk 0 held ended).len) (ha : 2 ≤ a ∧ a ≤ 32767) (hm : (n = m ∧ m < a) ∨ ((a : Int) ≤ n ∧ m = a)) : Calls Try.prog 35 #[.pointer (some ⟨x, 0, none⟩), .int .i64 n] w (RetXG w x F (SS.get ⟨0, held, ended⟩ n) L) := by
  have HT := Aside0.mk h
  have HLL := Aside0.mk hL
  have HHD := Aside0.mk (SS.head_good (s := ⟨0, held, ended⟩) rfl h2 (by rw [← hle]; omega))
  rw [← hle] at HHD
  obtain ⟨v, pre, hh, ho, hp, hk, hok, hlen⟩ := h
  dsimp only at hh ho hok hlen
  obtain ⟨B, d, rfl, hd, hmx, hr⟩ := ho.form
  have HN : Aside0 ((pre ++ held).length = pre.length + held.length) := ⟨List.length_append⟩
  obtain ⟨N, hN⟩ : ∃ N, N = (pre ++ held).length := ⟨_, rfl⟩
  have HNN := Aside0.mk hN
  obtain ⟨n0, hn0⟩ : ∃ n0, n0 = pre.length := ⟨_, rfl⟩
  have HN0 := Aside0.mk hn0
  rw [← hN] at hh ho hk hd hlen HN hr
  rw [← hn0] at hh HN
  have HH0 := Aside0.mk hh
  rw [show (n0 : Int) + ((0 : Nat) : Int) = (n0 : Int) by omega] at hh
  have HH := Aside0.mk hh
  have hb0 := hok.2.2.getD 0
  have hb1 := hok.2.2.getD 1
  dsimp only at hb0 hb1
  unfold SS.len at hle
  dsimp only at hle
  obtain ⟨ad, hBad, k0⟩ := C_byte hr (k := n0) (by have := HN.out; omega)
  subst hBad
  obtain ⟨ad', hBad, k1⟩ := C_byte hr (k := n0 + 1) (by have := HN.out; omega)
  injection hBad with hBad
  subst hBad
  have eg0 : (pre ++ held).getD n0 0 = held.getD 0 0 := by rw [hn0]; exact getD_behind pre held 0
  have eg1 : (pre ++ held).getD (n0 + 1) 0 = held.getD 1 0 := by rw [hn0]; exact getD_behind pre held 1
  rw [eg0] at k0
  rw [eg1] at k1
  obtain ⟨xx, hx⟩ : ∃ xx, xx = held.getD 0 0 := ⟨_, rfl⟩
  obtain ⟨yy, hy⟩ : ∃ yy, yy = held.getD 1 0 := ⟨_, rfl⟩
  rw [← hx] at k0 hb0 hle
  rw [← hy] at k1 hb1 hle
  clear hx hy eg0 eg1
  obtain ⟨hx0, hx1⟩ := hb0
  obtain ⟨hy0, hy1⟩ := hb1
  have hxy : 256 * xx + yy = (a : Int) := by omega
  have hw1 : IntKind.i64.wrap (256 * xx) = 256 * xx := IntWalk.i64_in _ (by omega)
  have hw2 : IntKind.i64.wrap (a : Int) = (a : Int) := IntWalk.i64_in _ (by omega)
  have t2 : ¬ (held.length : Int) < 2 := by omega
  have t3 : ((held.length : Int) == 0) = false := beq_eq_false_iff_ne.2 (by omega)
  obtain ⟨n1, hn1⟩ : ∃ n1, n1 = n0 + 1 := ⟨_, rfl⟩
  rw [← hn1] at k1
  have e7 : (n0 : Int) + 1 = (n1 : Int) := by omega
  have e8 : IntKind.i64.wrap (n1 : Int) = (n1 : Int) := IntWalk.i64_in _ (by have := HN.out; omega)
  have t4 : (n1 : Int) < (N : Int) := by have := HN.out; omega
  clear hn1
  have HK0 := Aside0.mk (And.intro k0 k1)
  have t5 : (n0 : Int) < (N : Int) := by omega
  have t6 : ¬ (a : Int) < 2 := by omega
  clear h2 hle k0 k1
  have HO := Aside0.mk ho
  have HK := Aside0.mk hk
  have HP := Aside0.mk (And.intro hp hok)
  have HLN : Aside0 ((pre ++ held).length ≤ L) := ⟨by rw [← hN]; exact hlen⟩
  have HR := Aside0.mk hr
  obtain ⟨⟨c0, c1, c2, c3⟩, f0, f1, f2, f3⟩ := four_cells hh
  have a1 : (a : Int) ≤ 32767 := by have := hok.1; simp only at this; omega
  have a2 : (0 : Int) < (a : Int) := by omega
  have a3 : (held.length : Int) ≤ 65536 := by have := hok.2.1; simp only at this; omega
  have a4 : (n0 : Int) ≤ (N : Int) := by have := HN.out; omega
  have a5 : (N : Int) ≤ 140737488355328 := by omega
  have a6 : (N : Int) ≤ (d : Int) := by omega
  have HM : Aside0 (min n.toNat a = m ∧ 0 < m) := ⟨by omega⟩
  have m0 : (0 : Int) < (m : Int) := by have := HM.out.2; omega
  clear hh ho hp hk hok hr hd hmx hlen hN hn0 hL ha
  rcases hm with ⟨rfl, hma⟩ | ⟨hle, hma⟩
  · have hma' : (m : Int) < (a : Int) := by omega
    clear hma
    go_enter Try.func35, Try.ntmps35
    go_wp2_with fail
    refine (xheld_calls _ x L _ F HT.out HLL.out).mono ?_
    rintro e w1 ⟨rfl, hb1⟩
    have HB1 := Aside0.mk hb1
    clear hb1 c0 c1 c2 c3 f0 f1 f2 f3
    obtain ⟨⟨c0, c1, c2, c3⟩, f0, f1, f2, f3⟩ := four_cells (blk_keep HH.out HB1.out)
    go_wp2_with fail
    refine (xheld_calls _ x L _ F (HT.out.below HB1.out) HLL.out).mono ?_
    rintro e w2 ⟨rfl, hb2⟩
    have HB2 := Aside0.mk (HB1.out.trans (hb2.mono HB1.out.size))
    clear hb2 c0 c1 c2 c3 f0 f1 f2 f3
    obtain ⟨⟨c0, c1, c2, c3⟩, f0, f1, f2, f3⟩ := four_cells (blk_keep HH.out HB2.out)
    have k0 := (HB2.out.cell (World.block_lt_of_cell? _ _ HK0.out.1)).trans HK0.out.1
    have k1 := (HB2.out.cell (World.block_lt_of_cell? _ _ HK0.out.2)).trans HK0.out.2
    go_wp2_with fail
    go_quiet (fail)
    obtain ⟨w3, hw3⟩ : ∃ w3, w3 = w2.drewN nq := ⟨_, rfl⟩
    have HBW : Aside0 (Below w.heap.size w w3) := ⟨by rw [hw3]; exact HB2.out.trans ((below_draws _ _).mono HB2.out.size)⟩
    rw [← hw3]
    clear hw3 k0 k1 c0 c1 c2 c3 f0 f1 f2 f3 hxy hw1 hw2 e7 e8
    obtain ⟨⟨c0, c1, c2, c3⟩, f0, f1, f2, f3⟩ := four_cells (blk_keep HH.out HBW.out)
    go_wp2_with fail
    refine (xheld_calls _ x L _ F (HT.out.below HBW.out) HLL.out).mono ?_
    rintro e w4 ⟨rfl, hb4⟩
    have HB4 := Aside0.mk (HBW.out.trans (hb4.mono HBW.out.size))
    clear hb4 c0 c1 c2 c3 f0 f1 f2 f3
    obtain ⟨⟨c0, c1, c2, c3⟩, f0, f1, f2, f3⟩ := four_cells (blk_keep HH.out HB4.out)
    by_cases hf : (held.length : Int) < (m : Int)
    · have HE : Aside0 (SS.get ⟨0, held, ended⟩ (m : Int) = ⟨⟨0, held, ended⟩, [], false, (SS.mk 0 held ended).lacks⟩) := ⟨SS.get_few (by omega) HHD.out (by show held.length < _; rw [HM.out.1]; omega)⟩
      go_wp2_with fail
      refine (xfew_calls _ x L _ F (HT.out.below HB4.out)).mono ?_
      rintro e w5 ⟨rfl, rfl⟩
      go_wp2_with fail
      go_ret3
      exact xretg_err HT.out HB4.out HE.out
    · have h5 : (m : Int) ≤ (held.length : Int) := by omega
      have h6 : (n0 : Int) + (m : Int) ≤ (N : Int) := by have := HN.out; omega
      have h7 : (n0 : Int) + (m : Int) ≤ (d : Int) := by omega
      have h8 : n0 ≠ d := by omega
      have HML : Aside0 (m ≤ held.length) := ⟨by omega⟩
      obtain ⟨zs, hz⟩ : ∃ zs, zs = held.take m := ⟨_, rfl⟩
      have hzl : zs.length = m := by rw [hz]; exact take_form HML.out
      obtain rfl : m = zs.length := hzl.symm
      have HZC : Aside0 (Kd.C (Kd.int .u8) w (some (ad.add n0)) zs.length zs) := ⟨by
        have h := HR.out
        rw [HNN.out] at h
        have h := C_right h
        rw [← HN0.out] at h
        have h := C_take h zs.length HML.out
        rw [← hz] at h
        exact h⟩
      have HZ := Aside0.mk hz
      obtain ⟨M, hM⟩ : ∃ M, M = n0 + zs.length := ⟨_, rfl⟩
      have HME := Aside0.mk hM
      have e1 : IntKind.i64.wrap ((n0 : Int) + (zs.length : Int)) = (M : Int) := by rw [IntWalk.i64_in _ (by omega)]; omega
      have e3 : (n0 : Int) + (zs.length : Int) = (M : Int) := by omega
      have e4 : IntKind.i64.wrap (M : Int) = (M : Int) := IntWalk.i64_in _ (by omega)
      have p0 : (0 : Int) ≤ (M : Int) := by omega
      have p1 : (M : Int) ≤ (d : Int) := by omega
      have p2 : n0 ≤ M := by omega
      have p3 : d ≠ n0 := by omega
      obtain ⟨wb, hwb⟩ : ∃ wb, wb = ((M : Int) == (n0 : Int) + (a : Int)) := ⟨_, rfl⟩
      have HWB : Aside0 (wb = (a - zs.length == 0)) := ⟨by rw [hwb]; apply Bool.eq_iff_iff.2; simp only [beq_iff_eq]; omega⟩
      have hwb' := hwb.symm
      clear hz hzl hwb
      clear hM h5 h6 h7 h8
      go_wp2_with fail
      go_still_tail 15, (by kernel_rfl)
      change wpList _ _ _ _ _ w4.drew
      obtain ⟨w5, hw5⟩ : ∃ w5, w5 = w4.drew := ⟨_, rfl⟩
      have HB5 : Aside0 (Below w.heap.size w w5) := ⟨by rw [hw5]; exact below_drew HB4.out⟩
      rw [← hw5]
      clear hw5 c0 c1 c2 c3 f0 f1 f2 f3
      obtain ⟨⟨c0, c1, c2, c3⟩, f0, f1, f2, f3⟩ := four_cells (blk_keep HH.out HB5.out)
      go_wp2_with fail
      rw [show M - n0 = zs.length by have := HME.out; omega]
      refine (copy_calls _ (some (ad.add n0)) _ zs (Kd.C_below HZC.out HB5.out) (by have := HML.out; omega)).mono ?_
      rintro e w6 ⟨v6, rfl, ho6, hb6⟩
      obtain ⟨A6, c6, rfl, _⟩ := ho6.reads
      have HO6 := Aside0.mk (ho6.lower HB5.out.size)
      have HB6 := Aside0.mk (HB5.out.trans (hb6.mono HB5.out.size))
      clear ho6 hb6 c0 c1 c2 c3 f0 f1 f2 f3
      obtain ⟨⟨c0, c1, c2, c3⟩, f0, f1, f2, f3⟩ := four_cells (blk_keep HH.out HB6.out)
      go_wp2_with fail
      go_quiet (fail)
      go_wp2_with fail
      go_ret3
      exact xget_close (by rw [← HN0.out]; exact HH0.out) HO.out HP.out.1 HK.out HP.out.2 HLN.out (by rw [SS.get_good (by omega) HHD.out (by show ¬ held.length < _; rw [HM.out.1]; omega), HM.out.1]) HML.out (by omega) (by have e := HZ.out; dsimp only; rw [← e]; exact HO6.out) HB6.out _ wb HWB.out _ _ (by have := HME.out; have := HN0.out; omega) (by have := HME.out; have := HN0.out; omega)
  · obtain rfl : m = a := hma
    have hle' : ¬ n < (m : Int) := by omega
    go_enter Try.func35, Try.ntmps35
    go_wp2_with fail
    refine (xheld_calls _ x L _ F HT.out HLL.out).mono ?_
    rintro e w1 ⟨rfl, hb1⟩
    have HB1 := Aside0.mk hb1
    clear hb1 c0 c1 c2 c3 f0 f1 f2 f3
    obtain ⟨⟨c0, c1, c2, c3⟩, f0, f1, f2, f3⟩ := four_cells (blk_keep HH.out HB1.out)
    go_wp2_with fail
    refine (xheld_calls _ x L _ F (HT.out.below HB1.out) HLL.out).mono ?_
    rintro e w2 ⟨rfl, hb2⟩
    have HB2 := Aside0.mk (HB1.out.trans (hb2.mono HB1.out.size))
    clear hb2 c0 c1 c2 c3 f0 f1 f2 f3
    obtain ⟨⟨c0, c1, c2, c3⟩, f0, f1, f2, f3⟩ := four_cells (blk_keep HH.out HB2.out)
    have k0 := (HB2.out.cell (World.block_lt_of_cell? _ _ HK0.out.1)).trans HK0.out.1
    have k1 := (HB2.out.cell (World.block_lt_of_cell? _ _ HK0.out.2)).trans HK0.out.2
    go_wp2_with fail
    go_quiet (fail)
    obtain ⟨w3, hw3⟩ : ∃ w3, w3 = w2.drewN nq := ⟨_, rfl⟩
    have HBW : Aside0 (Below w.heap.size w w3) := ⟨by rw [hw3]; exact HB2.out.trans ((below_draws _ _).mono HB2.out.size)⟩
    rw [← hw3]
    clear hw3 k0 k1 c0 c1 c2 c3 f0 f1 f2 f3 hxy hw1 hw2 e7 e8
    obtain ⟨⟨c0, c1, c2, c3⟩, f0, f1, f2, f3⟩ := four_cells (blk_keep HH.out HBW.out)
    go_wp2_with fail
    refine (xheld_calls _ x L _ F (HT.out.below HBW.out) HLL.out).mono ?_
    rintro e w4 ⟨rfl, hb4⟩
    have HB4 := Aside0.mk (HBW.out.trans (hb4.mono HBW.out.size))
    clear hb4 c0 c1 c2 c3 f0 f1 f2 f3
    obtain ⟨⟨c0, c1, c2, c3⟩, f0, f1, f2, f3⟩ := four_cells (blk_keep HH.out HB4.out)
    by_cases hf : (held.length : Int) < (m : Int)
    · have HE : Aside0 (SS.get ⟨0, held, ended⟩ n = ⟨⟨0, held, ended⟩, [], false, (SS.mk 0 held ended).lacks⟩) := ⟨SS.get_few (by omega) HHD.out (by show held.length < _; rw [HM.out.1]; omega)⟩
      go_wp2_with fail
      refine (xfew_calls _ x L _ F (HT.out.below HB4.out)).mono ?_
      rintro e w5 ⟨rfl, rfl⟩
      go_wp2_with fail
      go_ret3
      exact xretg_err HT.out HB4.out HE.out
    · have h5 : (m : Int) ≤ (held.length : Int) := by omega
      have h6 : (n0 : Int) + (m : Int) ≤ (N : Int) := by have := HN.out; omega
      have h7 : (n0 : Int) + (m : Int) ≤ (d : Int) := by omega
      have h8 : n0 ≠ d := by omega
      have HML : Aside0 (m ≤ held.length) := ⟨by omega⟩
      obtain ⟨zs, hz⟩ : ∃ zs, zs = held.take m := ⟨_, rfl⟩
      have hzl : zs.length = m := by rw [hz]; exact take_form HML.out
      obtain rfl : m = zs.length := hzl.symm
      have HZC : Aside0 (Kd.C (Kd.int .u8) w (some (ad.add n0)) zs.length zs) := ⟨by
        have h := HR.out
        rw [HNN.out] at h
        have h := C_right h
        rw [← HN0.out] at h
        have h := C_take h zs.length HML.out
        rw [← hz] at h
        exact h⟩
      have HZ := Aside0.mk hz
      obtain ⟨M, hM⟩ : ∃ M, M = n0 + zs.length := ⟨_, rfl⟩
      have HME := Aside0.mk hM
      have e1 : IntKind.i64.wrap ((n0 : Int) + (zs.length : Int)) = (M : Int) := by rw [IntWalk.i64_in _ (by omega)]; omega
      have e3 : (n0 : Int) + (zs.length : Int) = (M : Int) := by omega
      have e4 : IntKind.i64.wrap (M : Int) = (M : Int) := IntWalk.i64_in _ (by omega)
      have e6 : (M : Int) - (n0 : Int) = (zs.length : Int) := by omega
      have p0 : (0 : Int) ≤ (M : Int) := by omega
      have p1 : (M : Int) ≤ (d : Int) := by omega
      have p2 : n0 ≤ M := by omega
      have p3 : d ≠ n0 := by omega
      clear hz hzl
      clear hM h5 h6 h7 h8
      go_wp2_with fail
      go_still_tail 15, (by kernel_rfl)
      change wpList _ _ _ _ _ w4.drew
      obtain ⟨w5, hw5⟩ : ∃ w5, w5 = w4.drew := ⟨_, rfl⟩
      have HB5 : Aside0 (Below w.heap.size w w5) := ⟨by rw [hw5]; exact below_drew HB4.out⟩
      rw [← hw5]
      clear hw5 c0 c1 c2 c3 f0 f1 f2 f3
      obtain ⟨⟨c0, c1, c2, c3⟩, f0, f1, f2, f3⟩ := four_cells (blk_keep HH.out HB5.out)
      go_wp2_with fail
      rw [show M - n0 = zs.length by have := HME.out; omega]
      refine (copy_calls _ (some (ad.add n0)) _ zs (Kd.C_below HZC.out HB5.out) (by have := HML.out; omega)).mono ?_
      rintro e w6 ⟨v6, rfl, ho6, hb6⟩
      obtain ⟨A6, c6, rfl, _⟩ := ho6.reads
      have HO6 := Aside0.mk (ho6.lower HB5.out.size)
      have HB6 := Aside0.mk (HB5.out.trans (hb6.mono HB5.out.size))
      clear ho6 hb6 c0 c1 c2 c3 f0 f1 f2 f3
      obtain ⟨⟨c0, c1, c2, c3⟩, f0, f1, f2, f3⟩ := four_cells (blk_keep HH.out HB6.out)
      go_wp2_with fail
      go_quiet (fail)
      go_wp2_with fail
      go_ret3
      exact xget_close (by rw [← HN0.out]; exact HH0.out) HO.out HP.out.1 HK.out HP.out.2 HLN.out (by rw [SS.get_good (by omega) HHD.out (by show ¬ held.length < _; rw [HM.out.1]; omega), HM.out.1]) HML.out (by omega) (by have e := HZ.out; dsimp only; rw [← e]; exact HO6.out) HB6.out _ true (by simp) _ _ (by have := HME.out; have := HN0.out; omega) (by have := HME.out; have := HN0.out; omega)
set_option maxHeartbeats 4000000 in
theorem xget_bad (w : World) (x L : Nat) (z n : Int) (held : List Int) (ended : Bool) (F : Nat → Prop) (h : RefAt w x ⟨0, held, ended⟩ F L) (hL : L ≤ 140737488355328) (hn : ¬ n < 1) (h2 : ¬ held.length < 2) (hle : z = 256 * held.getD 0 0 + held.getD 1 0) (ha : z < 2 ∨ (2 ≤ z ∧ 32767 < z)) (hbad : (SS.mk 0 held ended).len < 2 ∨ 32767 < (SS.mk 0 held ended).len) : Calls Try.prog 35 #[.pointer (some ⟨x, 0, none⟩), .int .i64 n] w (RetXG w x F (SS.get ⟨0, held, ended⟩ n) L) := by
  have HE : Aside0 (SS.get ⟨0, held, ended⟩ n = ⟨⟨0, held, ended⟩, [], false, 40⟩) := ⟨SS.get_head hn (SS.head_bad rfl h2 hbad) (by decide)⟩
  clear hbad
  have HT := Aside0.mk h
  have HLL := Aside0.mk hL
  obtain ⟨v, pre, hh, ho, hp, hk, hok, hlen⟩ := h
  dsimp only at hh ho hok hlen
  obtain ⟨B, d, rfl, hd, hmx, hr⟩ := ho.form
  have HN : Aside0 ((pre ++ held).length = pre.length + held.length) := ⟨List.length_append⟩
  obtain ⟨N, hN⟩ : ∃ N, N = (pre ++ held).length := ⟨_, rfl⟩
  have HNN := Aside0.mk hN
  obtain ⟨n0, hn0⟩ : ∃ n0, n0 = pre.length := ⟨_, rfl⟩
  have HN0 := Aside0.mk hn0
  rw [← hN] at hh ho hk hd hlen HN hr
  rw [← hn0] at hh HN
  have HH0 := Aside0.mk hh
  rw [show (n0 : Int) + ((0 : Nat) : Int) = (n0 : Int) by omega] at hh
  have HH := Aside0.mk hh
  have hb0 := hok.2.2.getD 0
  have hb1 := hok.2.2.getD 1
  dsimp only at hb0 hb1
  obtain ⟨ad, hBad, k0⟩ := C_byte hr (k := n0) (by have := HN.out; omega)
  subst hBad
  obtain ⟨ad', hBad, k1⟩ := C_byte hr (k := n0 + 1) (by have := HN.out; omega)
  injection hBad with hBad
  subst hBad
  have eg0 : (pre ++ held).getD n0 0 = held.getD 0 0 := by rw [hn0]; exact getD_behind pre held 0
  have eg1 : (pre ++ held).getD (n0 + 1) 0 = held.getD 1 0 := by rw [hn0]; exact getD_behind pre held 1
  rw [eg0] at k0
  rw [eg1] at k1
  obtain ⟨xx, hx⟩ : ∃ xx, xx = held.getD 0 0 := ⟨_, rfl⟩
  obtain ⟨yy, hy⟩ : ∃ yy, yy = held.getD 1 0 := ⟨_, rfl⟩
  rw [← hx] at k0 hb0 hle
  rw [← hy] at k1 hb1 hle
  clear hx hy eg0 eg1
  obtain ⟨hx0, hx1⟩ := hb0
  obtain ⟨hy0, hy1⟩ := hb1
  have hxy : 256 * xx + yy = z := hle.symm
  have hw1 : IntKind.i64.wrap (256 * xx) = 256 * xx := IntWalk.i64_in _ (by omega)
  have hw2 : IntKind.i64.wrap z = z := IntWalk.i64_in _ (by omega)
  have t2 : ¬ (held.length : Int) < 2 := by omega
  have t3 : ((held.length : Int) == 0) = false := beq_eq_false_iff_ne.2 (by omega)
  obtain ⟨n1, hn1⟩ : ∃ n1, n1 = n0 + 1 := ⟨_, rfl⟩
  rw [← hn1] at k1
  have e7 : (n0 : Int) + 1 = (n1 : Int) := by omega
  have e8 : IntKind.i64.wrap (n1 : Int) = (n1 : Int) := IntWalk.i64_in _ (by have := HN.out; omega)
  have t4 : (n1 : Int) < (N : Int) := by have := HN.out; omega
  clear hn1
  have HK0 := Aside0.mk (And.intro k0 k1)
  have t5 : (n0 : Int) < (N : Int) := by omega
  clear h2 hle k0 k1
  have HO := Aside0.mk ho
  have HK := Aside0.mk hk
  have HP := Aside0.mk (And.intro hp hok)
  have HLN : Aside0 ((pre ++ held).length ≤ L) := ⟨by rw [← hN]; exact hlen⟩
  have HR := Aside0.mk hr
  obtain ⟨⟨c0, c1, c2, c3⟩, f0, f1, f2, f3⟩ := four_cells hh
  have a3 : (held.length : Int) ≤ 65536 := by have := hok.2.1; simp only at this; omega
  have a4 : (n0 : Int) ≤ (N : Int) := by have := HN.out; omega
  have a5 : (N : Int) ≤ 140737488355328 := by omega
  have a6 : (N : Int) ≤ (d : Int) := by omega
  clear hh ho hp hk hok hr hd hmx hlen hN hn0 hL
  rcases ha with ha | ⟨ha, ha2⟩
  all_goals
    go_enter Try.func35, Try.ntmps35
    go_wp2_with fail
    refine (xheld_calls _ x L _ F HT.out HLL.out).mono ?_
    rintro e w1 ⟨rfl, hb1⟩
    have HB1 := Aside0.mk hb1
    clear hb1 c0 c1 c2 c3 f0 f1 f2 f3
    obtain ⟨⟨c0, c1, c2, c3⟩, f0, f1, f2, f3⟩ := four_cells (blk_keep HH.out HB1.out)
    go_wp2_with fail
    refine (xheld_calls _ x L _ F (HT.out.below HB1.out) HLL.out).mono ?_
    rintro e w2 ⟨rfl, hb2⟩
    have HB2 := Aside0.mk (HB1.out.trans (hb2.mono HB1.out.size))
    clear hb2 c0 c1 c2 c3 f0 f1 f2 f3
    obtain ⟨⟨c0, c1, c2, c3⟩, f0, f1, f2, f3⟩ := four_cells (blk_keep HH.out HB2.out)
    have k0 := (HB2.out.cell (World.block_lt_of_cell? _ _ HK0.out.1)).trans HK0.out.1
    have k1 := (HB2.out.cell (World.block_lt_of_cell? _ _ HK0.out.2)).trans HK0.out.2
    go_wp2_with fail
    go_quiet (fail)
    obtain ⟨w3, hw3⟩ : ∃ w3, w3 = w2.drewN nq := ⟨_, rfl⟩
    have HBW : Aside0 (Below w.heap.size w w3) := ⟨by rw [hw3]; exact HB2.out.trans ((below_draws _ _).mono HB2.out.size)⟩
    rw [← hw3]
    clear hw3 k0 k1 c0 c1 c2 c3 f0 f1 f2 f3 hxy hw1 hw2 e7 e8
    obtain ⟨⟨c0, c1, c2, c3⟩, f0, f1, f2, f3⟩ := four_cells (blk_keep HH.out HBW.out)
    go_wp2_with fail
    go_ret3
    exact xretg_err HT.out HBW.out HE.out
theorem xget_calls (w : World) (x L : Nat) (s : SS) (F : Nat → Prop) (n : Int) (h : RefAt w x s F L) (hL : L ≤ 140737488355328) : Calls Try.prog 35 #[.pointer (some ⟨x, 0, none⟩), .int .i64 n] w (RetXG w x F (s.get n) L) := by
  by_cases hn : n < 1
  · exact xget_arg w x L s F n h hn
  have hok : s.ok := by obtain ⟨v, pre, _, _, _, _, hok, _⟩ := h; exact hok
  obtain ⟨left, held, ended⟩ := s
  have hmm : ∀ a : Nat, (n = (min n.toNat a : Nat) ∧ min n.toNat a < a) ∨ ((a : Int) ≤ n ∧ min n.toNat a = a) := fun a => by omega
  by_cases hl : left = 0
  · subst hl
    by_cases h2 : held.length < 2
    · exact xget_few w x L _ F n h hL hn rfl h2
    · have h0 := hok.2.2.getD 0
      have h1 := hok.2.2.getD 1
      dsimp only at h0 h1
      have hle : ((SS.mk 0 held ended).len : Int) = 256 * held.getD 0 0 + held.getD 1 0 := by
        have := h0.1
        have := h1.1
        unfold SS.len
        dsimp only
        omega
      by_cases h3 : (SS.mk 0 held ended).len < 2 ∨ 32767 < (SS.mk 0 held ended).len
      · exact xget_bad w x L _ n held ended F h hL hn h2 rfl (by omega) h3
      · exact xget_at w x L _ _ n held ended F h hL hn h2 rfl (by omega) (hmm _)
  · exact xget_in w x L _ _ n held ended F h hL hn (by omega) (hmm _)
end Go.Proofs.Ytilogpjbdemceaa.Oct
