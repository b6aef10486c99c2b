import Derived.Test.YtcpkfkcemaihfaaSessD
/- Frames of an end whose queue is not empty. -/
namespace Go.Proofs.Ytcpkfkcemaihfaa.Oct
open Go.RowKit Go.Proofs.YtcpkfkcemaihfaaW.PrintWords Go.Proofs.Ytcpkfkcemaihfaa.M
set_option linter.unusedVariables false
set_option linter.unusedSimpArgs false
set_option maxRecDepth 20000 in
set_option maxHeartbeats 8000000 in
theorem eframes_more (w : World) (p : Nat) (s : Es) (F : Nat → Prop) (h : EndAt w p s F) (h0 : s.q.length ≠ 0) :
    Calls Try.prog 14 #[.pointer (some ⟨p, 0, none⟩)] w fun e w' => ∃ A c, e = .returned (.slice A s.frames.length c) ∧ FW w' w.heap.size (.slice A s.frames.length c) s.frames ∧ Below w.heap.size w w' := by
  have HT := Aside0.mk h
  have HV := Aside0.mk (Es.frames_some h0)
  have hok := h.is.2.2
  obtain ⟨A, d, hd, hh⟩ := h.cells
  have hl : s.q.length ≤ 64 := hok.2.2.1
  have hw1 : 1 ≤ s.win ∧ s.win ≤ 16 := hok.2.1
  have hfl : s.first + s.q.length ≤ 65535 := hok.2.2.2.2.1
  obtain ⟨n, hn⟩ : ∃ n, n = s.q.length := ⟨_, rfl⟩
  rw [← hn] at hh hl hfl hd h0 HV
  have HN := Aside0.mk hn
  obtain ⟨M, hM⟩ : ∃ M, M = min n s.win := ⟨_, rfl⟩
  rw [← hM] at HV
  have HM : Aside0 (M ≤ n ∧ M ≤ 16) := ⟨by omega⟩
  have hmn : (M = n ∧ ¬ (s.win : Int) < (n : Int)) ∨ (M = s.win ∧ (s.win : Int) < (n : Int)) := by omega
  have HFL : Aside0 (s.frames.length = M) := ⟨by rw [HV.out, List.length_map, List.length_range]⟩
  obtain ⟨⟨c0, c1, c2, c3, c4⟩, _⟩ := five_cells hh
  have hne : ((n : Int) == 0) = false := by simp; omega
  have HC : Aside0 (∀ W, Below w.heap.size w W → W.cell? ⟨p, 0, none⟩ = some (.int .u32 s.ses) ∧ W.cell? ⟨p, 1, none⟩ = some (.int .i64 s.win) ∧ W.cell? ⟨p, 2, none⟩ = some (.slice A n d) ∧ W.cell? ⟨p, 3, none⟩ = some (.int .i64 s.first) ∧ W.cell? ⟨p, 4, none⟩ = some (.int .i64 s.exp)) := ⟨fun W hW => by
    obtain ⟨⟨c0, c1, c2, c3, c4⟩, _⟩ := five_cells (blk_keep hh hW)
    exact ⟨c0, c1, c2, c3, c4⟩⟩
  clear h hh hok hn hM h0
  rcases hmn with ⟨hM2, hwn⟩ | ⟨hM2, hwn⟩
  all_goals
    have HMV := Aside0.mk hM2
    clear hM2
    go_enter Try.func14, Try.ntmps14
    go_wp2_with fail
    refine (emade_calls _ p s F HT.out).mono ?_
    rintro e w1 ⟨rfl, rfl⟩
    go_wp2_with fail
    go_quiet (fail)
    obtain ⟨w2, hw2⟩ : ∃ wz, wz = w1.drewN nq := ⟨_, rfl⟩
    have HB2 : Aside0 (Below w1.heap.size w1 w2) := ⟨by rw [hw2]; exact pw_below_drewN (Below.refl _ _) _⟩
    rw [← hw2]
    clear hw2 c0 c1 c2 c3 c4 hne
    go_wp2_with fail
    first | rw [(congrArg (fun k : Nat => (k : Int)) HMV.out.symm : (n : Int) = (M : Int))] | rw [(congrArg (fun k : Nat => (k : Int)) HMV.out.symm : (s.win : Int) = (M : Int))]
    clear hwn
    go_loopw [3, 34] (fun v3 v34 wr => ∃ i : Nat, i ≤ M ∧ v34 = .int .i64 i ∧ Aside0 (Below w1.heap.size w1 wr) ∧ Aside0 (FW wr w1.heap.size v3 ((List.range i).map s.frame))) (fun _ v _ => M - (intOf v).toNat)
    case atStart => exact ⟨0, by omega, rfl, HB2, ⟨FW.nil _ _⟩⟩
    case round =>
      obtain ⟨i, hi, rfl, HB, HO⟩ := hrel
      have hM16 := HM.out.2
      obtain ⟨A3, c3, rfl, _, _⟩ := HO.out.form
      have HLS : Aside0 (((List.range i).map s.frame).length = i) := ⟨by rw [List.length_map, List.length_range]⟩
      obtain ⟨ls, hls⟩ : ∃ ls, ls = (List.range i).map s.frame := ⟨_, rfl⟩
      have HLL := Aside0.mk hls
      rw [← hls] at HO HLS
      rw [← hls]
      clear hls
      by_cases hlt : i < M
      · have hin : i < s.q.length := by have := HM.out.1; have := HN.out; omega
        obtain ⟨g, off, d', Au, du, e0, e1, hC⟩ := HT.out.get hin
        have ec := (HC.out _ (Below.refl _ _)).2.2.1
        rw [← HN.out, ec] at e0
        have hA : A = some ⟨g, off, none⟩ := by injection e0 with e0; injection e0
        subst hA
        have HYC := Aside0.mk hC
        have hle := HT.out.is.2.2.2.2.2.1 (s.q.getD i []) (by rw [List.getD_eq_getElem?_getD, List.getElem?_eq_getElem hin]; exact List.getElem_mem hin)
        obtain ⟨y, hy⟩ : ∃ y, y = s.q.getD i [] := ⟨_, rfl⟩
        have HY := Aside0.mk hy
        rw [← hy] at e1 HYC hle
        obtain ⟨L, hL⟩ : ∃ L, L = y.length := ⟨_, rfl⟩
        have HL := Aside0.mk hL
        rw [← hL] at e1
        obtain ⟨X, hX⟩ : ∃ X, X = s.first + i := ⟨_, rfl⟩
        have HX := Aside0.mk hX
        have g1 : (s.first : Int) + (i : Int) = (X : Int) := by omega
        have g2 : IntKind.i64.wrap ((s.first : Int) + (i : Int)) = (X : Int) := by rw [IntWalk.i64_in _ (by have := HM.out.1; omega)]; omega
        have g3 : IntKind.i64.wrap (X : Int) = (X : Int) := IntWalk.i64_in _ (by have := HM.out.1; omega)
        have hin1 : (i : Int) < (n : Int) := by have := HM.out.1; omega
        have HS : Aside0 (∀ W, Below w1.heap.size w1 W → W.cell? ⟨p, 0, none⟩ = some (.int .u32 s.ses) ∧ W.cell? ⟨p, 3, none⟩ = some (.int .i64 s.first) ∧ W.cell? ⟨p, 4, none⟩ = some (.int .i64 s.exp) ∧ W.cell? ⟨p, 2, none⟩ = some (.slice (some ⟨g, off, none⟩) n d) ∧ W.cell? ⟨g, off + i, none⟩ = some (.slice Au L du)) := ⟨fun W hW => by
          obtain ⟨x0, _, x2, x3, x4⟩ := HC.out W hW
          exact ⟨x0, x3, x4, x2, (hW.cell (World.block_lt_of_cell? _ _ e1)).trans e1⟩⟩
        have HCL : Aside0 (∀ W, Below wr.heap.size wr W → Calls Try.prog 28 #[.slice Au L du] W (fun e W' => ∃ A2 c2, e = .returned (.slice A2 L c2) ∧ OB W' w1.heap.size (.slice A2 L c2) y ∧ Below wr.heap.size wr W')) := ⟨fun W hW => by
          have := clone_calls W Au du y (Kd.C_below HYC.out (HB.out.trans (hW.mono HB.out.size))) (by have := hle.2.1; omega)
          rw [← hL] at this
          refine this.mono ?_
          rintro e W' ⟨v, rfl, ho, hb⟩
          obtain ⟨A2, c2, rfl, _⟩ := ho.reads
          rw [← hL] at ho ⊢
          exact ⟨A2, c2, rfl, ho.lower (Nat.le_trans HB.out.size hW.size), hW.trans (hb.mono hW.size)⟩⟩
        have HFW : Aside0 (∀ W, Below wr.heap.size wr W → FW W w1.heap.size (.slice A3 ls.length c3) ls) := ⟨fun W hW => HO.out.below hW⟩
        have HBW : Aside0 (∀ W, Below wr.heap.size wr W → Below w1.heap.size w1 W ∧ w1.heap.size ≤ W.heap.size) := ⟨fun W hW => ⟨HB.out.trans (hW.mono HB.out.size), Nat.le_trans HB.out.size hW.size⟩⟩
        have HBD : Aside0 (Below wr.heap.size wr wr.drew) := ⟨below_drew (Below.refl _ _)⟩
        have HBD1 : Aside0 (Below w1.heap.size w1 wr.drew) := ⟨below_drew HB.out⟩
        have HLE : Aside0 (ls.length ≤ 1000000) := ⟨by have := HLS.out; have := HM.out.2; omega⟩
        have HFE : Aside0 (ls ++ [(⟨s.ses, (X : Int), s.exp, y⟩ : FR)] = (List.range (i + 1)).map s.frame) := ⟨by
          rw [HLL.out, List.range_succ, List.map_append]
          congr 1
          show _ = [s.frame i]
          unfold Es.frame
          rw [HX.out, HY.out, Int.natCast_add]⟩
        have hlt' : (i : Int) < (M : Int) := by omega
        clear hC hy hL hX e0 e1 ec hle hd hl hfl hw1 hin
        go_wp2_with fail
        go_region_held_law (fun W => W.cell? ⟨p, 0, none⟩ = some (.int .u32 s.ses) ∧ W.cell? ⟨p, 3, none⟩ = some (.int .i64 s.first) ∧ W.cell? ⟨p, 4, none⟩ = some (.int .i64 s.exp) ∧ W.cell? ⟨p, 2, none⟩ = some (.slice (some ⟨g, off, none⟩) n d) ∧ W.cell? ⟨g, off + i, none⟩ = some (.slice Au L du)) (exact HS.out _ (by first | exact (Aside0.out (by assumption)) | exact below_alloc (Aside0.out (by assumption)) _))
          (first
           | (refine step_call (by rfl) 28 #[.tmp 58] #[38] (by rfl) #[.slice Au L du] (by rfl) Try.f28 Try.func28 (by kernel_rfl) (by kernel_rfl) ?_; refine (HCL.out _ (by first | exact (Aside0.out (by assumption)) | exact Below.refl _ _)).mono ?_; rintro e wc ⟨A2, c2, rfl, hou, hbc⟩; have HOU := Aside0.mk hou; have HBC := Aside0.mk hbc; have HBC1 := Aside0.mk (HBW.out _ hbc).1; clear hou hbc; refine ⟨_, rfl, ?_⟩)
           | (refine step_frame w1.heap.size rfl (.tmp 37) (.tmp 61) rfl (.slice A3 ls.length c3) ls ⟨s.ses, (X : Int), s.exp, y⟩ (.slice A2 L c2) wc.heap.size rfl rfl (HFW.out _ (by first | exact below_alloc HBC.out _ | exact below_drew (below_alloc HBC.out _))) (by exact heap_alloc_new wc _) (by have := (QB.of_OB HOU.out); rw [HL.out] at this ⊢; first | exact this.below (below_alloc (Below.refl _ _) _) | exact this.below (below_drew (below_alloc (Below.refl _ _) _))) (by first | exact (HBW.out _ (below_alloc HBC.out _)).2 | exact (HBW.out _ (below_drew (below_alloc HBC.out _))).2) HLE.out ?_; intro v1 w4 ho1 hg1 hk1; rw [HFE.out] at ho1; have HO4 := Aside0.mk ho1; have HB4 : Aside0 (Below w1.heap.size w1 w4) := ⟨by first | exact (HBW.out _ (below_alloc HBC.out _)).1.grown hg1 (HBW.out _ (below_alloc HBC.out _)).2 hk1 | exact (HBW.out _ (below_drew (below_alloc HBC.out _))).1.grown hg1 (HBW.out _ (below_drew (below_alloc HBC.out _))).2 hk1⟩; clear ho1 hg1 hk1))
        all_goals
          go_wp2_with fail
          go_roundw
          case rel => exact ⟨i + 1, by omega, by go_num, HB4, HO4⟩
          case measure => simp [intOf]; omega
      · obtain rfl : i = M := by omega
        have HE : Aside0 (ls = s.frames) := ⟨by rw [HLL.out, HV.out]⟩
        have hlt' : ¬ (i : Int) < (i : Int) := by omega
        clear hlt hw1 hl hfl hd
        go_wp2_with fail
        go_ret
        have ho := HO.out
        rw [HE.out] at ho ⊢
        exact ⟨A3, c3, rfl, ho, HB.out⟩
theorem eframes_calls (w : World) (p : Nat) (s : Es) (F : Nat → Prop) (h : EndAt w p s F) :
    Calls Try.prog 14 #[.pointer (some ⟨p, 0, none⟩)] w fun e w' => ∃ A c, e = .returned (.slice A s.frames.length c) ∧ FW w' w.heap.size (.slice A s.frames.length c) s.frames ∧ Below w.heap.size w w' := by
  by_cases h0 : s.q.length = 0
  · exact eframes_one w p s F h h0
  · exact eframes_more w p s F h h0
end Go.Proofs.Ytcpkfkcemaihfaa.Oct
