import Derived.Test.YtpkclecgaheplaaRTmG
import Derived.Test.YtpkclecgaheplaaRTmFf
import Derived.StillTailTactics
/- gds.Next, of a text that is one variable of one piece. -/
namespace Go.Proofs.YtpkclecgaheplaaR.Oct
open Go.RowKit Go.Proofs.YtpkclecgaheplaaRW.PrintWords Go.Proofs.YtpkclecgaheplaaR.M
set_option linter.unusedVariables false
set_option linter.unusedSimpArgs false
set_option maxRecDepth 20000 in
set_option maxHeartbeats 4000000 in
theorem gnext_calls (w : World) (id : Int) (A : Option Addr) (c : Nat) (d : List Int) (h : Kd.C (Kd.int .u8) w A (4 + d.length) (gdsB id d)) (hd : Bytes d) (hl : d.length ≤ 10) (hid : 0 ≤ id ∧ id < 65536) (hc : 4 + d.length ≤ c) (hc63 : c ≤ 9223372036854775807) :
    Calls Try.prog 30 #[.slice A (4 + d.length) c] w fun e w' => ∃ A2 c2, e = .returned (.tuple #[.agg #[.int .i64 id, .slice A2 d.length c2], .int .i64 ((4 + d.length : Nat) : Int), .int .i64 0]) ∧ QB w' w.heap.size (.slice A2 d.length c2) d ∧ d.length ≤ c2 ∧ Below w.heap.size w w' := by
  obtain ⟨D, hD⟩ : ∃ D, D = d.length := ⟨_, rfl⟩
  have HD := Aside0.mk hD
  obtain ⟨N, hN⟩ : ∃ N, N = 4 + D := ⟨_, rfl⟩
  have HN := Aside0.mk hN
  rw [← hD] at h hl hc ⊢
  rw [← hN] at h hc ⊢
  have hgl : (gdsB id d).length = N := by unfold gdsB; simp; omega
  obtain ⟨ad, rfl, c0⟩ := C_byte h (k := 0) (by omega)
  obtain ⟨_, e, c1⟩ := C_byte h (k := 1) (by omega)
  cases e
  obtain ⟨_, e, c2⟩ := C_byte h (k := 2) (by omega)
  cases e
  obtain ⟨_, e, c3⟩ := C_byte h (k := 3) (by omega)
  cases e
  have c0 : w.cell? ad = some (.int .u8 0) := c0
  have c1 : w.cell? ⟨ad.block, ad.off + 1, none⟩ = some (.int .u8 (N : Int)) := by
    have : (gdsB id d).getD 1 0 = (N : Int) := by show ((d.length : Int) + 4) = _; omega
    rw [this] at c1
    exact c1
  have c2 : w.cell? ⟨ad.block, ad.off + 2, none⟩ = some (.int .u8 (id / 256)) := c2
  have c3 : w.cell? ⟨ad.block, ad.off + 3, none⟩ = some (.int .u8 (id % 256)) := c3
  have HC := Aside0.mk (C_mid (by rw [hgl]; exact h) (k := 4) (n := D) (by rw [hgl]; omega))
  have HE : Aside0 (((gdsB id d).drop 4).take D = d) := ⟨by unfold gdsB; rw [show ([0, (d.length : Int) + 4, id / 256, id % 256] ++ d).drop 4 = d from rfl]; exact List.take_of_length_le (by omega)⟩
  rw [HE.out] at HC
  have HS : Aside0 (∀ W, Below w.heap.size w W → W.cell? ad = some (.int .u8 0) ∧ W.cell? ⟨ad.block, ad.off + 1, none⟩ = some (.int .u8 (N : Int)) ∧ W.cell? ⟨ad.block, ad.off + 2, none⟩ = some (.int .u8 (id / 256)) ∧ W.cell? ⟨ad.block, ad.off + 3, none⟩ = some (.int .u8 (id % 256))) := ⟨fun W hW => ⟨(hW.cell (World.block_lt_of_cell? _ _ c0)).trans c0, (hW.cell (World.block_lt_of_cell? _ _ c1)).trans c1, (hW.cell (World.block_lt_of_cell? _ _ c2)).trans c2, (hW.cell (World.block_lt_of_cell? _ _ c3)).trans c3⟩⟩
  obtain ⟨w0, hw0⟩ : ∃ w0, w0 = (w.alloc (.cells #[.int .i64 0, .slice none 0 0] 60)).alloc (.cells #[.int .i64 0, .slice none 0 0] 60) := ⟨_, rfl⟩
  obtain ⟨p5, hp5⟩ : ∃ p5, p5 = w.heap.size + 1 := ⟨_, rfl⟩
  have hb0 : Below w.heap.size w w0 := by rw [hw0]; exact below_alloc (below_alloc (Below.refl _ _) _) _
  have HW0 := Aside0.mk hw0
  have HP5 := Aside0.mk hp5
  have HB0 := Aside0.mk hb0
  obtain ⟨x0, x1, x2, x3⟩ := HS.out _ hb0
  obtain ⟨y0, y1, y2, y3⟩ := HS.out _ (below_drew hb0)
  have b1 : Go.bits .and .u8 0 127 = 0 := by decide
  have b2 : Go.bits .or .i64 0 (N : Int) = (N : Int) := by rw [bits_join .i64 63 (by decide) (fun n h0 h1 => IntWalk.i64_in _ (by omega)) 8 0 (N : Int) (by decide) (by decide) (by decide) (by omega) (by omega) (by omega), Int.zero_add]
  have g0 : IntKind.i64.wrap (0 : Int) = 0 := by decide
  have g1 : IntKind.i64.wrap (N : Int) = (N : Int) := IntWalk.i64_in _ (by omega)
  have n2 : ¬ (N : Int) < 2 := by omega
  have n4 : ¬ (N : Int) < 4 := by omega
  clear hw0 hp5 hb0 c0 c1 c2 c3 h hgl hN hD
  go_enter Try.func30, Try.ntmps30
  go_wp2_with fail
  go_step3
  go_wp2_with fail
  go_step3
  rw [← HP5.out, ← HW0.out]
  have h22 : w0.heap[w.heap.size]? = some (.cells #[.int .i64 0, .slice none 0 0] 60 (0, 0)) := by rw [HW0.out]; exact blk_keep (heap_alloc_new w _) (below_alloc (Below.refl _ _) _)
  have h55 : w0.heap[p5]? = some (.cells #[.int .i64 0, .slice none 0 0] 60 (0, 0)) := by rw [HW0.out]; exact heap_alloc_new' (w.alloc _) _ _ (by rw [HP5.out]; simp)
  have H22 := Aside0.mk h22
  have H55 := Aside0.mk h55
  clear h22 h55
  go_wp2_with fail
  go_quiet (fail)
  obtain ⟨w1, hw1⟩ : ∃ w1, w1 = w0.drewN nq := ⟨_, rfl⟩
  have hb1 : Below w0.heap.size w0 w1 := by rw [hw1]; exact pw_below_drewN (Below.refl _ _) _
  have HB1 := Aside0.mk (HB0.out.trans (hb1.mono HB0.out.size))
  have H21 := Aside0.mk (blk_keep H22.out hb1)
  have H51 := Aside0.mk (blk_keep H55.out hb1)
  rw [← hw1]
  clear hw1 hb1 x0 x1 x2 x3 y0 y1 y2 y3
  obtain ⟨x0, x1, x2, x3⟩ := HS.out _ HB1.out
  obtain ⟨y0, y1, y2, y3⟩ := HS.out _ (below_drew HB1.out)
  obtain ⟨v0, v1, v2, v3⟩ := two_cells2 H51.out
  obtain ⟨u0, u1, u2, u3⟩ := two_cells2 (blk_keep H51.out (below_drew (Below.refl _ _)))
  have q2 : (2 : Int) < (N : Int) := by omega
  have q3 : (3 : Int) < (N : Int) := by omega
  have q4 : 2 < N := by omega
  have q5 : 3 < N := by omega
  have e1 : IntKind.i64.wrap (id / 256) = id / 256 := IntWalk.i64_in _ (by omega)
  have e2 : IntKind.i64.wrap (id / 256 * 256) = id / 256 * 256 := IntWalk.i64_in _ (by omega)
  have e3 : IntKind.i64.wrap (id % 256) = id % 256 := IntWalk.i64_in _ (by omega)
  have e4 : Go.bits .or .i64 (id / 256 * 256) (id % 256) = id := by rw [bits_join .i64 63 (by decide) (fun n h0 h1 => IntWalk.i64_in _ (by omega)) 8 _ _ (by omega) (by omega) (by omega) (by omega) (by omega) (by omega)]; omega
  have e5 : IntKind.i64.wrap id = id := IntWalk.i64_in _ (by omega)
  go_wp2_with fail
  go_still_tail 11, (by kernel_rfl)
  change wpList _ _ _ _ _ w1.drew
  obtain ⟨w2, hw2⟩ : ∃ w2, w2 = w1.drew := ⟨_, rfl⟩
  have hb2 : Below w1.heap.size w1 w2 := by rw [hw2]; exact below_drew (Below.refl _ _)
  have HB2 := Aside0.mk (HB1.out.trans (hb2.mono HB1.out.size))
  have H22' := Aside0.mk (blk_keep H21.out hb2)
  have H52 := Aside0.mk (blk_keep H51.out hb2)
  rw [← hw2]
  clear hw2 hb2 v0 v1 v2 v3 u0 u1 u2 u3 x0 x1 x2 x3 y0 y1 y2 y3 e1 e2 e3 e4 e5 b1 b2
  obtain ⟨v0, v1, v2, v3⟩ := two_cells2 H52.out
  go_wp2_with fail
  obtain ⟨w3, hw3⟩ : ∃ w3, w3 = w2.setCell ⟨p5, 0, none⟩ (.int .i64 id) := ⟨_, rfl⟩
  have HLT : Aside0 (w.heap.size < p5) := ⟨by rw [HP5.out]; omega⟩
  have HB3 : Aside0 (Below w.heap.size w w3) := ⟨by rw [hw3]; exact HB2.out.setCell (p := ⟨p5, 0, none⟩) (Nat.le_of_lt HLT.out) _⟩
  have H53 : Aside0 (w3.heap[p5]? = some (.cells #[.int .i64 id, .slice none 0 0] 60 (0, 0))) := ⟨by rw [hw3]; exact heap_set _ H52.out⟩
  have H23 : Aside0 (w3.heap[w.heap.size]? = some (.cells #[.int .i64 0, .slice none 0 0] 60 (0, 0))) := ⟨by rw [hw3]; exact (Below.heap_setCell _ ⟨p5, 0, none⟩ _ _ (Nat.ne_of_lt HLT.out)).trans H22'.out⟩
  rw [← hw3]
  clear hw3 v0 v1 v2 v3
  obtain ⟨v0, v1, v2, v3⟩ := two_cells2 H53.out
  obtain ⟨u0, u1, u2, u3⟩ := two_cells2 (blk_keep H53.out (below_drew (Below.refl _ _)))
  have k4 : (4 : Int) ≤ (N : Int) := by omega
  have kc : (N : Int) ≤ (c : Int) := by omega
  have HCD : Aside0 (Kd.C (Kd.int .u8) w (some ⟨ad.block, ad.off + 4, none⟩) d.length d) := HC
  have HC0 : Aside0 (c = 4 → d = []) := ⟨fun e => List.eq_nil_of_length_eq_zero (by have := HN.out; have := HD.out; omega)⟩
  have g44 : IntKind.i64.wrap (4 : Int) = 4 := by decide
  have HLM : Aside0 (N - 4 = d.length ∧ d.length ≤ 10) := ⟨by have := HN.out; have := HD.out; omega⟩
  have HDL : Aside0 (D = d.length) := HD
  have hor : (c = 4 ∧ (N : Int) ≤ 4) ∨ (c ≠ 4 ∧ (N : Int) ≤ (c : Int)) := by omega
  clear kc
  rcases hor with ⟨hc4, kn4⟩ | ⟨hc4, kn4⟩
  all_goals
    have HC4 : Aside0 (∀ W, Below w.heap.size w W → Kd.C (Kd.int .u8) W (if c = 4 then some ad else some ⟨ad.block, ad.off + 4, none⟩) d.length d) := ⟨fun W hW => by
      first
      | (rw [if_neg hc4]; exact Kd.C_below HCD.out hW)
      | (rw [HC0.out hc4]; exact ⟨by simp, by simp, fun h => absurd h (by simp)⟩)⟩
    first
    | (rw [if_neg hc4] at HC4)
    | (rw [if_pos hc4] at HC4)
    go_region_law (refine step_q w.heap.size rfl (.tmp 55) (.tmp 63) rfl (.slice none 0 0) [] d _ _ _ (by have := HLM.out.1; omega) rfl rfl (QB.nil _ _) (HC4.out _ (below_drew HB3.out)) (below_drew HB3.out).size (by have := HLM.out.2; simp; omega) ?_; intro A1 w4 hq hg hn; obtain ⟨A2, c2, rfl, hc2, _⟩ := hq.form; have hb4 : Below w3.heap.size w3 w4 := (below_drew (Below.refl _ _)).grown hg (Nat.le_refl _) (fun k e => (nomatch e)); have HQ4 := Aside0.mk hq; have HB4 := Aside0.mk (HB3.out.trans (hb4.mono HB3.out.size)); have H54 := Aside0.mk (blk_keep H53.out hb4); have H24 := Aside0.mk (blk_keep H23.out hb4); obtain ⟨s0, s1, s2, s3⟩ := two_cells2 H54.out; clear hq hg hn hb4 hc2)
    all_goals
      have hq := HQ4.out
      rw [List.nil_append] at hq
      have hne : ∀ k, (Value.slice A2 ([] ++ d).length c2).ownBlock = some k → k ≠ p5 := fun k e => OwnAt.ne hq e H54.out (by decide)
      obtain ⟨w5, hw5⟩ : ∃ w5, w5 = w4.setCell ⟨p5, 1, none⟩ (.slice A2 d.length c2) := ⟨_, rfl⟩
      have HB5 : Aside0 (Below w.heap.size w w5) := ⟨by rw [hw5]; exact HB4.out.setCell (p := ⟨p5, 1, none⟩) (Nat.le_of_lt HLT.out) _⟩
      have H55 : Aside0 (w5.heap[p5]? = some (.cells #[.int .i64 id, .slice A2 d.length c2] 60 (0, 0))) := ⟨by rw [hw5]; exact heap_set _ H54.out⟩
      have H25 : Aside0 (w5.heap[w.heap.size]? = some (.cells #[.int .i64 0, .slice none 0 0] 60 (0, 0))) := ⟨by rw [hw5]; exact (Below.heap_setCell _ ⟨p5, 1, none⟩ _ _ (Nat.ne_of_lt HLT.out)).trans H24.out⟩
      have HQ5 : Aside0 (QB w5 w.heap.size (.slice A2 d.length c2) d) := ⟨by rw [hw5]; exact QB.move hq (fun k e => Below.heap_setCell _ ⟨p5, 1, none⟩ _ k (hne k e))⟩
      rw [← hw5]
      clear hw5 hq hne s0 s1 s2 s3 u0 u1 u2 u3 v0 v1 v2 v3
      obtain ⟨v0, v1, v2, v3⟩ := two_cells2 H55.out
      obtain ⟨x0, x1, x2, x3⟩ := HS.out _ HB5.out
      have hd10 : (d.length : Int) ≤ 10 := by have := HLM.out.2; omega
      go_wp2_with fail
      refine (clone_calls w5 A2 c2 d HQ5.out.C (by have := HLM.out.2; omega)).mono ?_
      rintro e w6 ⟨v6, rfl, ho6, hb6⟩
      obtain ⟨A6, c6, rfl, _⟩ := ho6.reads
      have HB6 := Aside0.mk (HB5.out.trans (hb6.mono HB5.out.size))
      have H56 := Aside0.mk (blk_keep H55.out hb6)
      have H26 := Aside0.mk (blk_keep H25.out hb6)
      have HO6 := Aside0.mk (QB.of_OB ho6)
      have HBB : Aside0 (w.heap.size ≤ w5.heap.size) := ⟨HB5.out.size⟩
      clear ho6 hb6 v0 v1 v2 v3 x0 x1 x2 x3
      obtain ⟨v0, v1, v2, v3⟩ := two_cells2 H56.out
      obtain ⟨r0, r1, r2, r3⟩ := two_cells2 H26.out
      have HNE5 : Aside0 (∀ k, (Value.slice A6 d.length c6).ownBlock = some k → k ≠ p5 ∧ k ≠ w.heap.size) := ⟨fun k e => ⟨OwnAt.ne HO6.out e H56.out (by decide), OwnAt.ne HO6.out e H26.out (by decide)⟩⟩
      have hne2 : p5 ≠ w.heap.size := Nat.ne_of_gt HLT.out
      go_wp2_with fail
      obtain ⟨wF, hwF⟩ : ∃ wF, wF = ((w6.setCell ⟨p5, 1, none⟩ (.slice A6 d.length c6)).setCell ⟨w.heap.size, 0, none⟩ (.int .i64 id)).setCell ⟨w.heap.size, 1, none⟩ (.slice A6 d.length c6) := ⟨_, rfl⟩
      have hhF : wF.heap[w.heap.size]? = some (.cells #[.int .i64 id, .slice A6 d.length c6] 60 (0, 0)) := by
        rw [hwF]
        exact heap_set _ (heap_set _ ((Below.heap_setCell _ ⟨p5, 1, none⟩ _ _ (Nat.ne_of_lt HLT.out)).trans H26.out))
      have hbF : Below w.heap.size w wF := by rw [hwF]; exact ((HB6.out.setCell (p := ⟨p5, 1, none⟩) (Nat.le_of_lt HLT.out) _).setCell (p := ⟨w.heap.size, 0, none⟩) (Nat.le_refl _) _).setCell (p := ⟨w.heap.size, 1, none⟩) (Nat.le_refl _) _
      have hqF : QB wF w.heap.size (.slice A6 d.length c6) d := by
        rw [hwF]
        refine (HO6.out.lower HBB.out).move (fun k e => ?_)
        have h := HNE5.out k e
        rw [Below.heap_setCell _ ⟨w.heap.size, 1, none⟩ _ k h.2, Below.heap_setCell _ ⟨w.heap.size, 0, none⟩ _ k h.2, Below.heap_setCell _ ⟨p5, 1, none⟩ _ k h.1]
      rw [← hwF]
      obtain ⟨t0, t1, t2, t3⟩ := two_cells2 hhF
      (try simp only [Exit.noGoto])
      refine bodyPost_ret (v := .tuple #[.agg #[.int .i64 id, .slice A6 d.length c6], .int .i64 (N : Int), .int .i64 0]) (by simp [results, Try.results30, go_sem, t0, t1, t2, t3]) rfl ?_
      obtain ⟨_, _, e, hle, _⟩ := hqF.form
      injection e with _ _ e3
      rw [HDL.out]
      exact ⟨A6, c6, rfl, hqF, by rw [e3]; exact hle, hbF⟩
end Go.Proofs.YtpkclecgaheplaaR.Oct
