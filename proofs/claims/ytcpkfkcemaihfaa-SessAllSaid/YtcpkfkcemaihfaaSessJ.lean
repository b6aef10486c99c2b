import Derived.Test.YtcpkfkcemaihfaaSessI
/- SessOther. -/
namespace Go.Proofs.Ytcpkfkcemaihfaa.M
theorem Es.put_ses (e : Es) (b : List Int) : (e.put b).1.ses = e.ses := by
  unfold Es.put
  split
  · rfl
  split
  · rfl
  split
  · rfl
  split <;> rfl
theorem Es.on_other {e : Es} {f : FR} (h : f.s ≠ e.ses) : e.on f = (e, [], 90) := by unfold Es.on; rw [if_pos h]
end Go.Proofs.Ytcpkfkcemaihfaa.M
namespace Go.Proofs.Ytcpkfkcemaihfaa.Oct
open Go.RowKit Go.Proofs.YtcpkfkcemaihfaaW.PrintWords Go.Proofs.Ytcpkfkcemaihfaa.M
set_option linter.unusedVariables false
set_option linter.unusedSimpArgs false
theorem pair_cell {W : World} {p : Nat} {x : Value} {xs : List Value} {t : TypeId} (h : W.heap[p]? = some (.cells (x :: xs).toArray t (0, 0))) : W.cell? ⟨p, 0, none⟩ = some x := by simp [World.cell?, h]
set_option maxRecDepth 20000 in
set_option maxHeartbeats 8000000 in
theorem sother_calls (w : World) (ses n : Int) (l : Bag) (f : FR) (A B : Option Addr) (c d : Nat) (hs : 0 ≤ ses ∧ ses < 4294967296) (hn : -9223372036854775808 ≤ n ∧ n ≤ 9223372036854775807) (h : textK.C w A l.length l) (hb : ∀ t ∈ l, Bytes t) (h2 : Kd.C (Kd.int .u8) w B f.d.length f.d) (hf : f.ok) (hfl : f.d.length ≤ 140737488355328) :
    Calls Try.prog 8 #[.int .u32 ses, .int .i64 n, .slice A l.length c, .agg #[.int .u32 f.s, .int .i64 f.q, .int .i64 f.k, .slice B f.d.length d]] w (Yes w) := by
  have HL := Aside0.mk h
  have HLB := Aside0.mk hb
  have HFD := Aside0.mk h2
  have HFO := Aside0.mk hf
  have HFL := Aside0.mk hfl
  have hll : l.length ≤ 9223372036854775807 := h.2.1
  clear h hb h2 hf
  obtain ⟨w0, hw0⟩ : ∃ w0, w0 = w.alloc (.cells #[.int .u32 f.s, .int .i64 f.q, .int .i64 f.k, .slice B f.d.length d] 42) := ⟨_, rfl⟩
  have HW0 := Aside0.mk hw0
  have HB0 : Aside0 (Below w.heap.size w w0) := ⟨by rw [hw0]; exact below_alloc (Below.refl _ _) _⟩
  have HH0 : Aside0 (w0.heap[w.heap.size]? = some (.cells #[.int .u32 f.s, .int .i64 f.q, .int .i64 f.k, .slice B f.d.length d] 42 (0, 0))) := ⟨by rw [hw0]; exact heap_alloc_new w _⟩
  have HSZ0 : Aside0 (w0.heap.size = w.heap.size + 1) := ⟨by rw [hw0]; simp⟩
  clear hw0
  by_cases hbad : ses = 0 ∨ n < 1 ∨ 16 < n
  · have HBAD := Aside0.mk hbad
    clear hbad
    go_enter Try.func8, Try.ntmps8
    go_wp2_with fail
    rw [← HW0.out]
    refine (both_bad _ ses n HBAD.out).mono ?_
    rintro e w1 ⟨rfl, hw1⟩
    have hw1 := hw1.symm
    subst hw1
    go_wp2_with fail
    refine (ealive_calls _).mono ?_
    rintro e w3 ⟨rfl, hb3⟩
    have HB3 := Aside0.mk (HB0.out.trans (hb3.mono HB0.out.size))
    clear hb3
    go_wp2_with fail
    go_ret
    exact ⟨rfl, HB3.out⟩
  · obtain ⟨N, rfl⟩ := Int.eq_ofNat_of_zero_le (show 0 ≤ n by omega)
    have HSN : Aside0 ((1 ≤ ses ∧ ses < 4294967296) ∧ (1 ≤ N ∧ N ≤ 16)) := ⟨by omega⟩
    clear hbad hs
    have HLG := Aside0.mk (fun W (hW : Below w.heap.size w W) => slong_calls W l A c (Kd.C_below HL.out hW))
    have hcase : longT l = true ∨ (longT l = false ∧ (1000 : Int) < (f.d.length : Int)) ∨ (longT l = false ∧ ¬ (1000 : Int) < (f.d.length : Int) ∧ f.s = ses) ∨ (longT l = false ∧ ¬ (1000 : Int) < (f.d.length : Int) ∧ f.s ≠ ses) := by
      cases longT l
      · have : (1000 : Int) < (f.d.length : Int) ∨ (¬ (1000 : Int) < (f.d.length : Int) ∧ f.s = ses) ∨ (¬ (1000 : Int) < (f.d.length : Int) ∧ f.s ≠ ses) := by omega
        simpa using this
      · exact .inl rfl
    have HL80 : Aside0 (longT l = true ∨ l.length ≤ 80) := ⟨by cases hg : longT l with | true => exact .inl rfl | false => exact .inr (longT_no hg).1⟩
    rcases hcase with hg | ⟨hg, h8⟩ | ⟨hg, h8, h9⟩ | ⟨hg, h8, h9⟩
    · rw [hg] at HLG
      clear hg
      go_enter Try.func8, Try.ntmps8
      go_wp2_with fail
      rw [← HW0.out]
      refine (both_good _ ses N HSN.out.1 HSN.out.2).mono ?_
      rintro e w1 ⟨a, b, p, rfl, ha, hab, hbp, he, _, hp, hb1⟩
      obtain ⟨b0, hb0⟩ : ∃ b0, b0 = w.heap.size := ⟨_, rfl⟩
      have HE1 : Aside0 (EX w.heap.size w1 a (newE ses N) (fun k => k = b0 ∨ k = p)) := ⟨_, he, fun k h => ⟨by have := HSZ0.out; omega, by rw [h]; exact he.is.1, by have := HSZ0.out; omega⟩⟩
      have HPH : Aside0 (w1.heap[p]? = some (.cells #[.pointer (some ⟨a, 0, none⟩), .pointer (some ⟨b, 0, none⟩), .slice none 0 0, .slice none 0 0, .slice none 0 0, .slice none 0 0, .slice none 0 0, .slice none 0 0] 35 (0, 0)) ∧ w1.heap[b0]? = some (.cells #[.int .u32 f.s, .int .i64 f.q, .int .i64 f.k, .slice B f.d.length d] 42 (0, 0))) := ⟨hp, by rw [hb0]; exact blk_keep HH0.out hb1⟩
      have HB1 := Aside0.mk (HB0.out.trans (hb1.mono HB0.out.size))
      rw [← hb0]
      obtain ⟨t0, t1, t2, t3⟩ := four_at HPH.out.2
      have c0 := pair_cell HPH.out.1
      clear hb1 he hp ha hab hbp hb0
      go_wp2_with fail
      refine (HLG.out _ HB1.out).mono ?_
      rintro e w2 ⟨rfl, hw2⟩
      have hw2 := hw2.symm
      subst hw2
      go_wp2_with fail
      refine (ealive_calls _).mono ?_
      rintro e w3 ⟨rfl, hb3⟩
      have HB3 := Aside0.mk (HB1.out.trans (hb3.mono HB1.out.size))
      clear hb3
      go_wp2_with fail
      go_ret
      exact ⟨rfl, HB3.out⟩
    · rw [hg] at HLG
      clear hg
      go_enter Try.func8, Try.ntmps8
      go_wp2_with fail
      rw [← HW0.out]
      refine (both_good _ ses N HSN.out.1 HSN.out.2).mono ?_
      rintro e w1 ⟨a, b, p, rfl, ha, hab, hbp, he, _, hp, hb1⟩
      obtain ⟨b0, hb0⟩ : ∃ b0, b0 = w.heap.size := ⟨_, rfl⟩
      have HE1 : Aside0 (EX w.heap.size w1 a (newE ses N) (fun k => k = b0 ∨ k = p)) := ⟨_, he, fun k h => ⟨by have := HSZ0.out; omega, by rw [h]; exact he.is.1, by have := HSZ0.out; omega⟩⟩
      have HPH : Aside0 (w1.heap[p]? = some (.cells #[.pointer (some ⟨a, 0, none⟩), .pointer (some ⟨b, 0, none⟩), .slice none 0 0, .slice none 0 0, .slice none 0 0, .slice none 0 0, .slice none 0 0, .slice none 0 0] 35 (0, 0)) ∧ w1.heap[b0]? = some (.cells #[.int .u32 f.s, .int .i64 f.q, .int .i64 f.k, .slice B f.d.length d] 42 (0, 0))) := ⟨hp, by rw [hb0]; exact blk_keep HH0.out hb1⟩
      have HB1 := Aside0.mk (HB0.out.trans (hb1.mono HB0.out.size))
      rw [← hb0]
      obtain ⟨t0, t1, t2, t3⟩ := four_at HPH.out.2
      have c0 := pair_cell HPH.out.1
      clear hb1 he hp ha hab hbp hb0
      go_wp2_with fail
      refine (HLG.out _ HB1.out).mono ?_
      rintro e w2 ⟨rfl, hw2⟩
      have hw2 := hw2.symm
      subst hw2
      go_wp2_with fail
      refine (ealive_calls _).mono ?_
      rintro e w3 ⟨rfl, hb3⟩
      have HB3 := Aside0.mk (HB1.out.trans (hb3.mono HB1.out.size))
      clear hb3
      go_wp2_with fail
      go_ret
      exact ⟨rfl, HB3.out⟩
    · rw [hg] at HLG
      have b9 : (f.s == ses) = true := by simpa using h9
      clear hg h9
      go_enter Try.func8, Try.ntmps8
      go_wp2_with fail
      rw [← HW0.out]
      refine (both_good _ ses N HSN.out.1 HSN.out.2).mono ?_
      rintro e w1 ⟨a, b, p, rfl, ha, hab, hbp, he, _, hp, hb1⟩
      obtain ⟨b0, hb0⟩ : ∃ b0, b0 = w.heap.size := ⟨_, rfl⟩
      have HE1 : Aside0 (EX w.heap.size w1 a (newE ses N) (fun k => k = b0 ∨ k = p)) := ⟨_, he, fun k h => ⟨by have := HSZ0.out; omega, by rw [h]; exact he.is.1, by have := HSZ0.out; omega⟩⟩
      have HPH : Aside0 (w1.heap[p]? = some (.cells #[.pointer (some ⟨a, 0, none⟩), .pointer (some ⟨b, 0, none⟩), .slice none 0 0, .slice none 0 0, .slice none 0 0, .slice none 0 0, .slice none 0 0, .slice none 0 0] 35 (0, 0)) ∧ w1.heap[b0]? = some (.cells #[.int .u32 f.s, .int .i64 f.q, .int .i64 f.k, .slice B f.d.length d] 42 (0, 0))) := ⟨hp, by rw [hb0]; exact blk_keep HH0.out hb1⟩
      have HB1 := Aside0.mk (HB0.out.trans (hb1.mono HB0.out.size))
      rw [← hb0]
      obtain ⟨t0, t1, t2, t3⟩ := four_at HPH.out.2
      have c0 := pair_cell HPH.out.1
      clear hb1 he hp ha hab hbp hb0
      go_wp2_with fail
      refine (HLG.out _ HB1.out).mono ?_
      rintro e w2 ⟨rfl, hw2⟩
      have hw2 := hw2.symm
      subst hw2
      go_wp2_with fail
      refine (ealive_calls _).mono ?_
      rintro e w3 ⟨rfl, hb3⟩
      have HB3 := Aside0.mk (HB1.out.trans (hb3.mono HB1.out.size))
      clear hb3
      go_wp2_with fail
      go_ret
      exact ⟨rfl, HB3.out⟩
    · rw [hg] at HLG
      have b9 : (f.s == ses) = false := by simpa using h9
      have HNE := Aside0.mk h9
      obtain ⟨hl80, _⟩ := longT_no hg
      clear hg h9
      go_enter Try.func8, Try.ntmps8
      go_wp2_with fail
      rw [← HW0.out]
      refine (both_good _ ses N HSN.out.1 HSN.out.2).mono ?_
      rintro e w1 ⟨a, b, p, rfl, ha, hab, hbp, he, _, hp, hb1⟩
      obtain ⟨b0, hb0⟩ : ∃ b0, b0 = w.heap.size := ⟨_, rfl⟩
      have HE1 : Aside0 (EX w.heap.size w1 a (newE ses N) (fun k => k = b0 ∨ k = p)) := ⟨_, he, fun k h => ⟨by have := HSZ0.out; omega, by rw [h]; exact he.is.1, by have := HSZ0.out; omega⟩⟩
      have HPH : Aside0 (w1.heap[p]? = some (.cells #[.pointer (some ⟨a, 0, none⟩), .pointer (some ⟨b, 0, none⟩), .slice none 0 0, .slice none 0 0, .slice none 0 0, .slice none 0 0, .slice none 0 0, .slice none 0 0] 35 (0, 0)) ∧ w1.heap[b0]? = some (.cells #[.int .u32 f.s, .int .i64 f.q, .int .i64 f.k, .slice B f.d.length d] 42 (0, 0))) := ⟨hp, by rw [hb0]; exact blk_keep HH0.out hb1⟩
      have HB1 := Aside0.mk (HB0.out.trans (hb1.mono HB0.out.size))
      rw [← hb0]
      obtain ⟨t0, t1, t2, t3⟩ := four_at HPH.out.2
      have c0 := pair_cell HPH.out.1
      clear hb1 he hp ha hab hbp hb0
      go_wp2_with fail
      refine (HLG.out _ HB1.out).mono ?_
      rintro e w2 ⟨rfl, hw2⟩
      have hw2 := hw2.symm
      subst hw2
      go_wp2_with fail
      clear t0 t1 t2 t3 c0
      go_loopw [10] (fun v10 wr => ∃ (i : Nat) (s : Es), i ≤ l.length ∧ v10 = .int .i64 i ∧ Aside0 (Below w.heap.size w wr) ∧ Aside0 (EX w.heap.size wr a s (fun k => k = b0 ∨ k = p)) ∧ Aside0 (s.ses = ses) ∧ Aside0 (wr.heap[p]? = some (.cells #[.pointer (some ⟨a, 0, none⟩), .pointer (some ⟨b, 0, none⟩), .slice none 0 0, .slice none 0 0, .slice none 0 0, .slice none 0 0, .slice none 0 0, .slice none 0 0] 35 (0, 0)) ∧ wr.heap[b0]? = some (.cells #[.int .u32 f.s, .int .i64 f.q, .int .i64 f.k, .slice B f.d.length d] 42 (0, 0)))) (fun v _ => l.length - (intOf v).toNat)
      case atStart => exact ⟨0, _, by omega, rfl, HB1, HE1, ⟨rfl⟩, HPH⟩
      case round =>
        obtain ⟨i, s, hi, rfl, HB, HE, HW, HP⟩ := hrel
        have HXL : Aside0 (∀ W : World, W.heap[p]? = wr.heap[p]? → W.heap[b0]? = wr.heap[b0]? → ∀ k, (fun k => k = b0 ∨ k = p) k → k < W.heap.size) := ⟨fun W h1 h2 k hk => by
          rcases hk with rfl | rfl
          · exact (Array.getElem?_eq_some_iff.1 (h2.trans HP.out.2)).1
          · exact (Array.getElem?_eq_some_iff.1 (h1.trans HP.out.1)).1⟩
        by_cases hlt : i < l.length
        · have hlt' : (i : Int) < (l.length : Int) := by omega
          obtain ⟨ad, B1, c1, rfl, k0, _, hrd⟩ := text_at HL.out hlt
          have HM : Aside0 (l.getD i [] ∈ l) := ⟨by rw [List.getD_eq_getElem?_getD, List.getElem?_eq_getElem hlt]; exact List.getElem_mem hlt⟩
          have HRD := Aside0.mk hrd
          have HYB := Aside0.mk (HLB.out _ HM.out)
          obtain ⟨y, hy⟩ : ∃ y, y = l.getD i [] := ⟨_, rfl⟩
          rw [← hy] at k0 HRD HYB
          have HSP := Aside0.mk (s.put_ses y)
          obtain ⟨m, hm⟩ : ∃ m, m = y.length := ⟨_, rfl⟩
          rw [← hm] at k0
          have HPC : Aside0 (∀ W, Below wr.heap.size wr W → Calls Try.prog 12 #[.pointer (some ⟨a, 0, none⟩), .slice B1 m c1] W (fun e W' => e = .returned (.int .i64 (s.put y).2) ∧ EX w.heap.size W' a (s.put y).1 (fun k => k = b0 ∨ k = p) ∧ KX w.heap.size W (fun k => k = b0 ∨ k = p) W')) := ⟨fun W hW => by
            rw [hm]
            exact (HE.out.below hW).put (fun k hk => Nat.lt_of_lt_of_le (HXL.out wr rfl rfl k hk) hW.size) (Nat.le_trans HB.out.size hW.size) (fun F hF => eput_calls W a s F B1 c1 y hF (Kd.C_below HRD.out (HB.out.trans (hW.mono HB.out.size))) HYB.out)⟩
          obtain ⟨s2, hs2⟩ : ∃ s2, s2 = (s.put y).1 := ⟨_, rfl⟩
          rw [← hs2] at HPC HSP
          have HS : Aside0 (∀ W : World, (Below w.heap.size w W ∧ W.heap[p]? = wr.heap[p]?) → W.cell? ⟨p, 0, none⟩ = some (.pointer (some ⟨a, 0, none⟩)) ∧ W.cell? (ad.add i) = some (.slice B1 m c1)) := ⟨fun W hW => ⟨pair_cell (hW.2.trans HP.out.1), (hW.1.cell (World.block_lt_of_cell? _ _ k0)).trans k0⟩⟩
          have HD1 : Aside0 (Below w.heap.size w wr.drew ∧ wr.drew.heap[p]? = wr.heap[p]?) := ⟨below_drew HB.out, rfl⟩
          have HD0 : Aside0 (Below w.heap.size w wr ∧ wr.heap[p]? = wr.heap[p]?) := ⟨HB.out, rfl⟩
          have HBD : Aside0 (Below wr.heap.size wr wr.drew) := ⟨below_drew (Below.refl _ _)⟩
          clear hy hrd HM hs2 k0 hm
          go_wp2_with fail
          go_region_held_law (fun W => W.cell? ⟨p, 0, none⟩ = some (.pointer (some ⟨a, 0, none⟩)) ∧ W.cell? (ad.add i) = some (.slice B1 m c1)) (exact HS.out _ (Aside0.out (by assumption)))
            ((go_at_call 12; refine (HPC.out _ (by first | exact (Aside0.out (by assumption)) | exact Below.refl _ _)).mono ?_; rintro e w2 ⟨rfl, he2, hk2⟩; have HE2 := Aside0.mk he2; have HB2 : Aside0 (Below w.heap.size w w2) := ⟨HB.out.trans ((by first | exact (below_drew (Below.refl wr.heap.size wr)).mono HB.out.size | exact Below.refl _ _ : Below w.heap.size wr _).trans hk2.below)⟩; have HP2 : Aside0 (w2.heap[p]? = wr.heap[p]? ∧ w2.heap[b0]? = wr.heap[b0]?) := ⟨hk2.block p (.inr rfl) (HXL.out wr rfl rfl p (.inr rfl)), hk2.block b0 (.inl rfl) (HXL.out wr rfl rfl b0 (.inl rfl))⟩; have HD2 : Aside0 (Below w.heap.size w w2 ∧ w2.heap[p]? = wr.heap[p]?) := ⟨HB2.out, HP2.out.1⟩; clear he2 hk2))
          all_goals
            go_wp2_with fail
            exact ⟨⟨i + 1, s2, by omega, by go_num, HB2, HE2, ⟨by rw [HSP.out]; exact HW.out⟩, ⟨HP2.out.1.trans HP.out.1, HP2.out.2.trans HP.out.2⟩⟩, by simp [intOf]; omega⟩
        · have hlt' : ¬ (i : Int) < (l.length : Int) := by omega
          have HON := Aside0.mk (Es.on_other (e := s) (f := f) (by rw [HW.out]; exact HNE.out))
          obtain ⟨hM1, _⟩ := Es.frames_bound HE.out.ok
          obtain ⟨M, hM⟩ : ∃ M, M = s.frames.length := ⟨_, rfl⟩
          have HM1 : Aside0 ((0 : Int) < (M : Int)) := ⟨by omega⟩
          obtain ⟨Q, hQ⟩ : ∃ Q, Q = s.q.length := ⟨_, rfl⟩
          have HS : Aside0 (∀ W, Below wr.heap.size wr W → W.cell? ⟨p, 0, none⟩ = some (.pointer (some ⟨a, 0, none⟩))) := ⟨fun W hW => pair_cell (blk_keep HP.out.1 hW)⟩
          have HWT : Aside0 (∀ W, Below wr.heap.size wr W → Calls Try.prog 15 #[.pointer (some ⟨a, 0, none⟩)] W fun e w' => e = .returned (.int .i64 Q) ∧ w' = W) := ⟨fun W hW => by obtain ⟨F4, h4, _⟩ := HE.out.below hW; rw [hQ]; exact ewaiting_calls W a s F4 h4⟩
          have HCM : Aside0 (∀ W, Below wr.heap.size wr W → Calls Try.prog 23 #[.pointer (some ⟨a, 0, none⟩)] W fun e w' => e = .returned (.int .i64 s.exp) ∧ w' = W) := ⟨fun W hW => by obtain ⟨F4, h4, _⟩ := HE.out.below hW; exact ecame_calls W a s F4 h4⟩
          have HBD : Aside0 (Below wr.heap.size wr wr.drew) := ⟨below_drew (Below.refl _ _)⟩
          obtain ⟨ex, hex⟩ : ∃ ex, ex = s.exp := ⟨_, rfl⟩
          rw [← hex] at HCM
          have HEX := Aside0.mk hex
          have HMM := Aside0.mk hM
          have HQQ := Aside0.mk hQ
          clear hM1 hlt hex hM hQ
          go_wp2_with fail
          go_region_held_law (fun W => W.cell? ⟨p, 0, none⟩ = some (.pointer (some ⟨a, 0, none⟩))) (exact HS.out _ (Aside0.out (by assumption)))
            (first
             | (go_at_call 15; refine (HWT.out _ (by first | exact (Aside0.out (by assumption)) | exact Below.refl _ _)).mono ?_; rintro e w' ⟨rfl, hw'⟩; have hw' := hw'.symm; subst hw')
             | (go_at_call 23; refine (HCM.out _ (by first | exact (Aside0.out (by assumption)) | exact Below.refl _ _)).mono ?_; rintro e w' ⟨rfl, hw'⟩; have hw' := hw'.symm; subst hw'))
          all_goals
            obtain ⟨w2, hw2⟩ : ∃ w2, w2 = wr.drew := ⟨_, rfl⟩
            have HB2 : Aside0 (Below wr.heap.size wr w2) := ⟨by rw [hw2]; exact below_drew (Below.refl _ _)⟩
            have HB2w := Aside0.mk (HB.out.trans (HB2.out.mono HB.out.size))
            try rw [← hw2]
            have HOC : Aside0 (∀ W, Below wr.heap.size wr W → Calls Try.prog 13 #[.pointer (some ⟨a, 0, none⟩), .agg #[.int .u32 f.s, .int .i64 f.q, .int .i64 f.k, .slice B f.d.length d]] W (fun e W' => ∃ A' d', e = .returned (.tuple #[.slice A' 0 d', .int .i64 90]) ∧ EX w.heap.size W' a s (fun k => k = b0 ∨ k = p) ∧ KX w.heap.size W (fun k => k = b0 ∨ k = p) W')) := ⟨fun W hW => by
              have hWw := HB.out.trans (hW.mono HB.out.size)
              have hFW := Kd.C_below HFD.out hWw
              refine ((HE.out.below hW).on hWw.size (fun F hF hFx => eon_calls W a s F f B d hF hFW HFO.out HFL.out (fun W2 hk2 => Kd.C_below HFD.out (below_kept hWw hk2 hWw.size (fun k h => (hFx k h).1))))).mono ?_
              rw [HON.out]
              rintro e W' ⟨A', d', rfl, _, he, hk⟩
              exact ⟨A', d', rfl, he, hk⟩⟩
            have HS2 : Aside0 (∀ W : World, (W.heap[p]? = wr.heap[p]? ∧ W.heap[b0]? = wr.heap[b0]?) → W.cell? ⟨p, 0, none⟩ = some (.pointer (some ⟨a, 0, none⟩)) ∧ W.cell? ⟨b0, 0, none⟩ = some (.int .u32 f.s) ∧ W.cell? ⟨b0, 1, none⟩ = some (.int .i64 f.q) ∧ W.cell? ⟨b0, 2, none⟩ = some (.int .i64 f.k) ∧ W.cell? ⟨b0, 3, none⟩ = some (.slice B f.d.length d)) := ⟨fun W hW => ⟨pair_cell (hW.1.trans HP.out.1), four_at (hW.2.trans HP.out.2)⟩⟩
            have HQ2 : Aside0 (w2.heap[p]? = wr.heap[p]? ∧ w2.heap[b0]? = wr.heap[b0]?) := ⟨HB2.out.block p (HXL.out wr rfl rfl p (.inr rfl)), HB2.out.block b0 (HXL.out wr rfl rfl b0 (.inl rfl))⟩
            have HQ2d : Aside0 (w2.drew.heap[p]? = wr.heap[p]? ∧ w2.drew.heap[b0]? = wr.heap[b0]?) := HQ2
            have HBD2 : Aside0 (Below wr.heap.size wr w2.drew) := ⟨below_drew HB2.out⟩
            clear hw2
            go_wp2_with fail
            go_region_held_law (fun W => W.cell? ⟨p, 0, none⟩ = some (.pointer (some ⟨a, 0, none⟩)) ∧ W.cell? ⟨b0, 0, none⟩ = some (.int .u32 f.s) ∧ W.cell? ⟨b0, 1, none⟩ = some (.int .i64 f.q) ∧ W.cell? ⟨b0, 2, none⟩ = some (.int .i64 f.k) ∧ W.cell? ⟨b0, 3, none⟩ = some (.slice B f.d.length d)) (exact HS2.out _ (Aside0.out (by assumption)))
              ((go_at_call 13; refine (HOC.out _ (by first | exact (Aside0.out (by assumption)) | exact HB2.out)).mono ?_; rintro e w3 ⟨A3, d3, rfl, he3, hk3⟩; have HE3 := Aside0.mk he3; have HB3 : Aside0 (Below w.heap.size w w3) := ⟨HB.out.trans ((by first | exact (HBD2.out.mono HB.out.size) | exact (HB2.out.mono HB.out.size) : Below w.heap.size wr _).trans hk3.below)⟩; have HP3 : Aside0 (w3.heap[p]? = wr.heap[p]? ∧ w3.heap[b0]? = wr.heap[b0]?) := ⟨(hk3.block p (.inr rfl) (Nat.lt_of_lt_of_le (HXL.out wr rfl rfl p (.inr rfl)) (by first | exact HB2.out.size | exact HBD2.out.size))).trans HQ2.out.1, (hk3.block b0 (.inl rfl) (Nat.lt_of_lt_of_le (HXL.out wr rfl rfl b0 (.inl rfl)) (by first | exact HB2.out.size | exact HBD2.out.size))).trans HQ2.out.2⟩; clear he3 hk3))
            all_goals
              go_wp2_with fail
              refine (ealive_calls _).mono ?_
              rintro e w4 ⟨rfl, hb4⟩
              have HB4 := Aside0.mk (HB3.out.trans (hb4.mono HB3.out.size))
              obtain ⟨F4, hF4, _⟩ := HE3.out.below hb4
              have HF4 := Aside0.mk hF4
              have x0 := pair_cell (blk_keep (HP3.out.1.trans HP.out.1) hb4)
              have hqq : ((Q : Int) == (Q : Int)) = true := beq_self_eq_true _
              have hee : ((ex : Int) == (ex : Int)) = true := beq_self_eq_true _
              have hM1 := HM1.out
              clear hb4 hF4
              go_wp2_with (first
                | (go_at_call 15; refine (ewaiting_calls _ a s F4 HF4.out).mono ?_; rw [← HQQ.out]; rintro e w' ⟨rfl, hw'⟩; have hw' := hw'.symm; subst hw')
                | (go_at_call 23; refine (ecame_calls _ a s F4 HF4.out).mono ?_; rw [← HEX.out]; rintro e w' ⟨rfl, hw'⟩; have hw' := hw'.symm; subst hw')
                | (go_at_call 14; refine (eframes_calls _ a s F4 HF4.out).mono ?_; rw [← HMM.out]; rintro e w5 ⟨A5, c5, rfl, _, hb5⟩; have HB5 := Aside0.mk (HB4.out.trans (hb5.mono HB4.out.size)); clear hb5))
              go_ret
              have hdm : decide (0 < M) = true := decide_eq_true (by omega)
              exact ⟨by first | rfl | (rw [hdm]; rfl) | (simp only [hdm]; rfl), HB5.out⟩
end Go.Proofs.Ytcpkfkcemaihfaa.Oct
