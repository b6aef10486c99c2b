import Derived.Test.YtmdipdjgfdjhoaaFrameH
namespace Go.Proofs.Ytmdipdjgfdjhoaa.Oct
open Go.RowKit Go.Proofs.YtmdipdjgfdjhoaaW.PrintWords Go.Proofs.Ytmdipdjgfdjhoaa.M
set_option linter.unusedVariables false
set_option linter.unusedSimpArgs false
set_option maxHeartbeats 8000000 in
theorem fapart_calls (w : World) (f g : FR) (A B : Option Addr) (c d : Nat) (hr : Kd.C (Kd.int .u8) w A f.d.length f.d) (ho : f.ok) (hr' : Kd.C (Kd.int .u8) w B g.d.length g.d) (ho' : g.ok) :
    Calls Try.prog 8 #[.agg #[.int .u32 f.s, .int .i64 f.q, .int .i64 f.k, .slice A f.d.length c], .agg #[.int .u32 g.s, .int .i64 g.q, .int .i64 g.k, .slice B g.d.length d]] w (Yes w) := by
  have HF := Aside0.mk hr
  have HG := Aside0.mk hr'
  have HFO := Aside0.mk ho
  have HGO := Aside0.mk ho'
  have hlf : f.d.length ≤ 9223372036854775807 := hr.2.1
  have hlg : g.d.length ≤ 9223372036854775807 := hr'.2.1
  have HBX : Aside0 (Below w.heap.size w ((w.alloc (frC f A c)).alloc (frC g B d))) := ⟨below_alloc (below_alloc (Below.refl _ _) _) _⟩
  have HP : Aside0 (∀ f : FR, f.mayP → f.write = (f.all, 0)) := ⟨fun f => FR.write_all⟩
  have HN : Aside0 (∀ f : FR, ¬ f.mayP → f.write = ([], 70)) := ⟨fun f => FR.write_bad⟩
  clear hr hr' ho ho'
  have hlen : 2000 < (f.d.length : Int) ∨ (¬ 2000 < (f.d.length : Int) ∧ 2000 < (g.d.length : Int)) ∨ (¬ 2000 < (f.d.length : Int) ∧ ¬ 2000 < (g.d.length : Int)) := by omega
  rcases hlen with h2 | ⟨h2, h3⟩ | ⟨h2, h3⟩
  · go_enter Try.func8, Try.ntmps8
    go_wp2_with fail
    refine (falive_calls _).mono ?_
    rintro e w3 ⟨rfl, hb3⟩
    have HB3 := Aside0.mk (HBX.out.trans (hb3.mono HBX.out.size))
    clear hb3
    go_wp2_with fail
    go_ret
    exact ⟨rfl, HB3.out⟩
  · go_enter Try.func8, Try.ntmps8
    go_wp2_with fail
    refine (falive_calls _).mono ?_
    rintro e w3 ⟨rfl, hb3⟩
    have HB3 := Aside0.mk (HBX.out.trans (hb3.mono HBX.out.size))
    clear hb3
    go_wp2_with fail
    go_ret
    exact ⟨rfl, HB3.out⟩
  · have hf2 : (f.d.length : Int) ≤ 2000 := by omega
    have hg2 : (g.d.length : Int) ≤ 2000 := by omega
    clear h2 h3
    go_enter Try.func8, Try.ntmps8
    go_wp2_with fail
    obtain ⟨w2, hw2⟩ : ∃ w2, w2 = (w.alloc (frC f A c)).alloc (frC g B d) := ⟨_, rfl⟩
    unfold frC at hw2 HBX
    rw [← hw2] at HBX ⊢
    have HH1 : Aside0 (w2.heap[w.heap.size]? = some (.cells #[.int .u32 f.s, .int .i64 f.q, .int .i64 f.k, .slice A f.d.length c] 25 (0, 0))) := ⟨by rw [hw2]; exact blk_keep (heap_alloc_new w _) (below_alloc (Below.refl _ _) _)⟩
    have HH2 : Aside0 (w2.heap[w.heap.size + 1]? = some (.cells #[.int .u32 g.s, .int .i64 g.q, .int .i64 g.k, .slice B g.d.length d] 25 (0, 0))) := ⟨by rw [hw2]; exact heap_alloc_new' _ _ _ (by simp)⟩
    clear hw2
    refine (fwrite_calls _ f A c (Kd.C_below HF.out HBX.out) HFO.out).mono ?_
    rintro e w3 ⟨v, rfl, hq, hb⟩
    have HB3 := Aside0.mk (HBX.out.trans (hb.mono HBX.out.size))
    have HH1' := Aside0.mk (blk_keep HH1.out hb)
    have HH2' := Aside0.mk (blk_keep HH2.out hb)
    have HQ1 := Aside0.mk hq
    obtain ⟨A1, c1, rfl, _⟩ := hq.form
    obtain ⟨xs, hxs⟩ : ∃ xs, xs = f.write.1 := ⟨_, rfl⟩
    obtain ⟨e1, he1⟩ : ∃ e1, e1 = f.write.2 := ⟨_, rfl⟩
    rw [← hxs] at HQ1 ⊢
    rw [← he1]
    have HXS := Aside0.mk hxs
    have HE1 := Aside0.mk he1
    clear hb hq hxs he1
    obtain ⟨t0, t1, t2, t3, r0, r1, r2, r3⟩ := four_cells HH2'.out
    go_wp2_with fail
    refine (fwrite_calls _ g B d (Kd.C_below HG.out HB3.out) HGO.out).mono ?_
    rintro e w4 ⟨v, rfl, hq, hb⟩
    have HB4 := Aside0.mk (HB3.out.trans (hb.mono HB3.out.size))
    have HH1'' := Aside0.mk (blk_keep HH1'.out hb)
    have HH2'' := Aside0.mk (blk_keep HH2'.out hb)
    have HQ1' := Aside0.mk (HQ1.out.below hb)
    have HQ2 := Aside0.mk hq
    obtain ⟨A2, c2, rfl, _⟩ := hq.form
    obtain ⟨ys, hys⟩ : ∃ ys, ys = g.write.1 := ⟨_, rfl⟩
    obtain ⟨e2, he2⟩ : ∃ e2, e2 = g.write.2 := ⟨_, rfl⟩
    rw [← hys] at HQ2 ⊢
    rw [← he2]
    have HYS := Aside0.mk hys
    have HE2 := Aside0.mk he2
    clear hb hq hys he2 t0 t1 t2 t3 r0 r1 r2 r3
    have hcase : e1 ≠ 0 ∨ (e1 = 0 ∧ e2 ≠ 0) ∨ (e1 = 0 ∧ e2 = 0) := by omega
    rcases hcase with h1 | ⟨h1, h2⟩ | ⟨h1, h2⟩
    · have b1 : (e1 != 0) = true := by simpa using h1
      clear h1
      go_wp2_with fail
      refine (falive_calls _).mono ?_
      rintro e w5 ⟨rfl, hb5⟩
      have HB5 := Aside0.mk (HB4.out.trans (hb5.mono HB4.out.size))
      clear hb5
      go_wp2_with fail
      go_ret
      exact ⟨rfl, HB5.out⟩
    · have b1 : (e1 != 0) = false := by simpa using h1
      have b2 : (e2 != 0) = true := by simpa using h2
      clear h1 h2
      go_wp2_with fail
      refine (falive_calls _).mono ?_
      rintro e w5 ⟨rfl, hb5⟩
      have HB5 := Aside0.mk (HB4.out.trans (hb5.mono HB4.out.size))
      clear hb5
      go_wp2_with fail
      go_ret
      exact ⟨rfl, HB5.out⟩
    · have hpf : f.mayP := by
        by_cases hp : f.mayP
        · exact hp
        · exfalso
          have := HE1.out
          rw [HN.out f hp, h1] at this
          exact absurd this (by decide)
      have hpg : g.mayP := by
        by_cases hp : g.mayP
        · exact hp
        · exfalso
          have := HE2.out
          rw [HN.out g hp, h2] at this
          exact absurd this (by decide)
      have hxa : xs = f.all := by rw [HXS.out, HP.out f hpf]
      have hya : ys = g.all := by rw [HYS.out, HP.out g hpg]
      have b1 : (e1 != 0) = false := by simpa using h1
      have b2 : (e2 != 0) = false := by simpa using h2
      obtain ⟨S1, hS1⟩ : ∃ S1, S1 = strOfNums xs := ⟨_, rfl⟩
      obtain ⟨S2, hS2⟩ : ∃ S2, S2 = strOfNums ys := ⟨_, rfl⟩
      obtain ⟨r, hrr⟩ : ∃ r, r = same f g := ⟨_, rfl⟩
      have hE : (S1.toList == S2.toList) = r := by
        rw [hrr, hS1, hS2, hxa, hya]
        by_cases hfg : f = g
        · subst hfg
          rw [same_self]
          exact beq_self_eq_true _
        · rw [same_not hfg]
          refine beq_eq_false_iff_ne.2 (fun e => hfg (all_inj hpf HFO.out hpg HGO.out (str_inj (FR.all_bytes HFO.out) (FR.all_bytes HGO.out) e)))
      have HS : Aside0 (∀ W, Below w4.heap.size w4 W → (W.cell? ⟨w.heap.size, 0, none⟩ = some (.int .u32 f.s) ∧ W.cell? ⟨w.heap.size, 1, none⟩ = some (.int .i64 f.q) ∧ W.cell? ⟨w.heap.size, 2, none⟩ = some (.int .i64 f.k) ∧ W.cell? ⟨w.heap.size, 3, none⟩ = some (.slice A f.d.length c)) ∧ (W.cell? ⟨w.heap.size + 1, 0, none⟩ = some (.int .u32 g.s) ∧ W.cell? ⟨w.heap.size + 1, 1, none⟩ = some (.int .i64 g.q) ∧ W.cell? ⟨w.heap.size + 1, 2, none⟩ = some (.int .i64 g.k) ∧ W.cell? ⟨w.heap.size + 1, 3, none⟩ = some (.slice B g.d.length d)) ∧ (convert 23 9 (.slice A1 xs.length c1)).run Try.prog W = .ok (.string S1) W ∧ (convert 23 9 (.slice A2 ys.length c2)).run Try.prog W = .ok (.string S2) W) := ⟨fun W hW => by
        obtain ⟨t0, t1, t2, t3, _⟩ := four_cells (blk_keep HH1''.out hW)
        obtain ⟨u0, u1, u2, u3, _⟩ := four_cells (blk_keep HH2''.out hW)
        refine ⟨⟨t0, t1, t2, t3⟩, ⟨u0, u1, u2, u3⟩, ?_, ?_⟩
        · rw [hS1]; exact (HQ1'.out.below hW).string
        · rw [hS2]; exact (HQ2.out.below hW).string⟩
      have HC : Aside0 (∀ W, Below w4.heap.size w4 W → Calls Try.prog 13 #[.agg #[.int .u32 f.s, .int .i64 f.q, .int .i64 f.k, .slice A f.d.length c], .agg #[.int .u32 g.s, .int .i64 g.q, .int .i64 g.k, .slice B g.d.length d]] W (fun e w' => e = .returned (.bool r) ∧ Below W.heap.size W w')) := ⟨fun W hW => by
        rw [hrr]
        exact same_calls W f g A B c d (Kd.C_below HF.out (HB4.out.trans (hW.mono HB4.out.size))) (Kd.C_below HG.out (HB4.out.trans (hW.mono HB4.out.size))) HFO.out.2.2.2 HGO.out.2.2.2⟩
      have HBD : Aside0 (Below w4.heap.size w4 w4.drew) := ⟨below_drew (Below.refl _ _)⟩
      clear h1 h2 hpf hpg hxa hya hS1 hS2 hrr HP HN HXS HYS HE1 HE2 HH1 HH2 HH1' HH2' HH1'' HH2'' HQ1 HQ1' HQ2 HF HG HFO HGO HBX HB3
      go_wp2_with fail
      go_region_held_law (fun W => (W.cell? ⟨w.heap.size, 0, none⟩ = some (.int .u32 f.s) ∧ W.cell? ⟨w.heap.size, 1, none⟩ = some (.int .i64 f.q) ∧ W.cell? ⟨w.heap.size, 2, none⟩ = some (.int .i64 f.k) ∧ W.cell? ⟨w.heap.size, 3, none⟩ = some (.slice A f.d.length c)) ∧ (W.cell? ⟨w.heap.size + 1, 0, none⟩ = some (.int .u32 g.s) ∧ W.cell? ⟨w.heap.size + 1, 1, none⟩ = some (.int .i64 g.q) ∧ W.cell? ⟨w.heap.size + 1, 2, none⟩ = some (.int .i64 g.k) ∧ W.cell? ⟨w.heap.size + 1, 3, none⟩ = some (.slice B g.d.length d)) ∧ (convert 23 9 (.slice A1 xs.length c1)).run Try.prog W = .ok (.string S1) W ∧ (convert 23 9 (.slice A2 ys.length c2)).run Try.prog W = .ok (.string S2) W) (exact HS.out _ (Aside0.out (by assumption)))
        (first
         | (go_at_call 9; refine (falive_calls _).mono ?_; rintro e wa ⟨rfl, hba⟩; have HBa : Aside0 (Below w4.heap.size w4 wa) := ⟨Below.trans (Aside0.out (by assumption)) hba⟩; clear hba)
         | (go_at_call 13; refine (HC.out _ (Aside0.out (by assumption))).mono ?_; rintro e wb ⟨rfl, hbb⟩; have HBb : Aside0 (Below w4.heap.size w4 wb) := ⟨Below.trans (Aside0.out (by assumption)) (hbb.mono (Below.size (Aside0.out (by assumption))))⟩; clear hbb))
      all_goals
        have HBE := Aside0.mk (HB4.out.trans (HBb.out.mono HB4.out.size))
        go_wp2_with fail
        go_ret
        exact ⟨rfl, HBE.out⟩
end Go.Proofs.Ytmdipdjgfdjhoaa.Oct
