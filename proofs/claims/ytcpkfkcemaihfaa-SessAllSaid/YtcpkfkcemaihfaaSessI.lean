import Derived.Test.YtcpkfkcemaihfaaSessH
/- One end, and what is not its; SessWindow. -/
namespace Go.Proofs.Ytcpkfkcemaihfaa.M
theorem Es.frames_bound {e : Es} (h : e.ok) : 1 ≤ e.frames.length ∧ e.frames.length ≤ e.win ∧ (0 < e.q.length → e.frames.length ≤ e.q.length) ∧ e.frames.length ≤ 16 := by
  have := h.2.1
  rw [Es.frames_len]
  split <;> omega
theorem Es.frames_get {e : Es} {k : Nat} (h1 : 1 ≤ k) (hk : k < e.frames.length) (j : Nat) (hj : j ≤ k) : e.frames[j]? = some (e.frame j) := by
  have h0 : e.q.length ≠ 0 := fun h => by rw [Es.frames_len, if_pos h] at hk; omega
  have hl := e.frames_len
  rw [if_neg h0] at hl
  rw [Es.frames_some h0, List.getElem?_map, List.getElem?_range (by omega)]
  rfl
theorem Es.put_win (e : Es) (b : List Int) : (e.put b).1.win = e.win := by
  unfold Es.put
  split
  · rfl
  split
  · rfl
  split
  · rfl
  split <;> rfl
theorem Es.on_win (e : Es) (f : FR) : (e.on f).1.win = e.win := by
  unfold Es.on
  split
  · rfl
  split
  · rfl
  split
  · exact Es.acked_win _ _
  split
  · exact Es.acked_win _ _
  · exact Es.acked_win _ _
end Go.Proofs.Ytcpkfkcemaihfaa.M
namespace Go.Proofs.Ytcpkfkcemaihfaa.Oct
open Go.RowKit Go.Proofs.YtcpkfkcemaihfaaW.PrintWords Go.Proofs.Ytcpkfkcemaihfaa.M
set_option linter.unusedVariables false
set_option linter.unusedSimpArgs false
/-- what a call leaves as it was -/
structure KX (base : Nat) (W : World) (ex : Nat → Prop) (W' : World) : Prop where
  below : Below base W W'
  block : ∀ k, ex k → k < W.heap.size → W'.heap[k]? = W.heap[k]?
theorem KX.trans {base : Nat} {W W1 W2 : World} {ex : Nat → Prop} (h : KX base W ex W1) (h2 : KX base W1 ex W2) : KX base W ex W2 := ⟨h.below.trans h2.below, fun k hk hl => (h2.block k hk (Nat.lt_of_lt_of_le hl h.below.size)).trans (h.block k hk hl)⟩
theorem KX.of_below {base : Nat} {W W' : World} {ex : Nat → Prop} (hb : Below W.heap.size W W') (h : base ≤ W.heap.size) : KX base W ex W' := ⟨hb.mono h, fun k _ hk => hb.block k hk⟩
theorem KX.of_kept {base : Nat} {W W' : World} {F ex : Nat → Prop} (hk : Kept W F W') (hb : base ≤ W.heap.size) (hF : ∀ k, F k → base ≤ k ∧ ¬ ex k) : KX base W ex W' :=
  ⟨below_kept (Below.refl base W) hk hb (fun k h => (hF k h).1), fun k he hl => hk.block k hl (fun h => (hF k h).2 he)⟩
/-- an end; ex: what is not its -/
def EX (base : Nat) (W : World) (a : Nat) (s : Es) (ex : Nat → Prop) : Prop := ∃ F : Nat → Prop, EndAt W a s F ∧ ∀ k, F k → base ≤ k ∧ k < W.heap.size ∧ ¬ ex k
theorem EX.step {base : Nat} {W W' : World} {a : Nat} {s : Es} {ex : Nat → Prop} (h : EX base W a s ex) (hs : W.heap.size ≤ W'.heap.size) (hb : ∀ k, ¬ ex k → k < W.heap.size → W'.heap[k]? = W.heap[k]?) : EX base W' a s ex := by
  obtain ⟨F, h1, h4⟩ := h
  exact ⟨F, h1.step (fun k hk hl => hb k (h4 k hk).2.2 hl), fun k hk => ⟨(h4 k hk).1, Nat.lt_of_lt_of_le (h4 k hk).2.1 hs, (h4 k hk).2.2⟩⟩
theorem EX.below {base : Nat} {W W' : World} {a : Nat} {s : Es} {ex : Nat → Prop} (h : EX base W a s ex) (hb : Below W.heap.size W W') : EX base W' a s ex := h.step hb.size (fun k _ hk => hb.block k hk)
theorem EX.ok {base : Nat} {W : World} {a : Nat} {s : Es} {ex : Nat → Prop} (h : EX base W a s ex) : s.ok := by
  obtain ⟨F, h1, _⟩ := h
  exact h1.is.2.2
theorem EX.put {base : Nat} {W : World} {a : Nat} {s s' : Es} {n : Int} {ex : Nat → Prop} {f : Nat} {args : Array Value} (h : EX base W a s ex) (hx : ∀ k, ex k → k < W.heap.size) (hbs : base ≤ W.heap.size)
    (hc : ∀ F, EndAt W a s F → Calls Try.prog f args W (RetE W a F s' n)) : Calls Try.prog f args W (fun e W' => e = .returned (.int .i64 n) ∧ EX base W' a s' ex ∧ KX base W ex W') := by
  obtain ⟨F, h1, h4⟩ := h
  refine (hc F h1).mono ?_
  rintro e W' ⟨rfl, ht, hk⟩
  refine ⟨rfl, ⟨fun k => New W F k ∧ k < W'.heap.size, ht.mono (fun k h hl => ⟨h, hl⟩), ?_⟩, KX.of_kept hk hbs (fun k hf => ⟨(h4 k hf).1, (h4 k hf).2.2⟩)⟩
  rintro k ⟨hf | hn, hl⟩
  · exact ⟨(h4 k hf).1, hl, (h4 k hf).2.2⟩
  · have hn : W.heap.size ≤ k := hn
    exact ⟨by omega, hl, fun e => by have := hx k e; omega⟩
theorem EX.on {base : Nat} {W : World} {a : Nat} {s : Es} {r : Es × List Int × Int} {ex : Nat → Prop} {f : Nat} {args : Array Value} (h : EX base W a s ex) (hbs : base ≤ W.heap.size)
    (hc : ∀ F, EndAt W a s F → (∀ k, F k → base ≤ k ∧ ¬ ex k) → Calls Try.prog f args W (RetOn W a F r)) : Calls Try.prog f args W (fun e W' => ∃ A d, e = .returned (.tuple #[.slice A r.2.1.length d, .int .i64 r.2.2]) ∧ OB W' W.heap.size (.slice A r.2.1.length d) r.2.1 ∧ EX base W' a r.1 ex ∧ KX base W ex W') := by
  obtain ⟨F, h1, h4⟩ := h
  refine (hc F h1 (fun k hk => ⟨(h4 k hk).1, (h4 k hk).2.2⟩)).mono ?_
  rintro e W' ⟨A, d, rfl, ho, ht, hk⟩
  exact ⟨A, d, rfl, ho, ⟨F, ht, fun k hf => ⟨(h4 k hf).1, Nat.lt_of_lt_of_le (h4 k hf).2.1 hk.size, (h4 k hf).2.2⟩⟩, KX.of_kept hk hbs (fun k hf => ⟨(h4 k hf).1, (h4 k hf).2.2⟩)⟩
set_option maxRecDepth 20000 in
set_option maxHeartbeats 8000000 in
theorem swindow_calls (w : World) (ses n : Int) (l : Bag) (acks : List Int) (A B : Option Addr) (c d : Nat) (hs : 0 ≤ ses ∧ ses < 4294967296) (h : textK.C w A l.length l) (hb : ∀ t ∈ l, Bytes t) (h2 : Kd.C (Kd.int .i64) w B acks.length acks) (hk : ∀ x ∈ acks, -9223372036854775808 ≤ x ∧ x ≤ 9223372036854775807) (hn : -9223372036854775808 ≤ n ∧ n ≤ 9223372036854775807) :
    Calls Try.prog 3 #[.int .u32 ses, .int .i64 n, .slice A l.length c, .slice B acks.length d] w (Yes w) := by
  have HL := Aside0.mk h
  have HLB := Aside0.mk hb
  have HA := Aside0.mk h2
  have HAB := Aside0.mk hk
  have hll : l.length ≤ 9223372036854775807 := h.2.1
  have hal : acks.length ≤ 9223372036854775807 := h2.2.1
  clear h hb h2 hk
  by_cases hbad : ses = 0 ∨ n < 1 ∨ 16 < n
  · have HBAD := Aside0.mk hbad
    clear hbad
    go_enter Try.func3, Try.ntmps3
    go_wp2_with fail
    refine (both_bad _ ses n HBAD.out).mono ?_
    rintro e w1 ⟨rfl, hw1⟩
    have hw1 := hw1.symm
    subst hw1
    go_wp2_with fail
    refine (ealive_calls _).mono ?_
    rintro e w3 ⟨rfl, hb3⟩
    have HB3 := Aside0.mk hb3
    clear hb3
    go_wp2_with fail
    go_ret
    exact ⟨rfl, HB3.out⟩
  · obtain ⟨N, rfl⟩ := Int.eq_ofNat_of_zero_le (show 0 ≤ n by omega)
    have HSN : Aside0 ((1 ≤ ses ∧ ses < 4294967296) ∧ (1 ≤ N ∧ N ≤ 16)) := ⟨by omega⟩
    clear hbad hs
    have HLG := Aside0.mk (fun W (hW : Below w.heap.size w W) => slong_calls W l A c (Kd.C_below HL.out hW))
    have hcase : longT l = true ∨ (longT l = false ∧ (80 : Int) < (acks.length : Int)) ∨ (longT l = false ∧ ¬ (80 : Int) < (acks.length : Int)) := by
      cases longT l
      · have : (80 : Int) < (acks.length : Int) ∨ ¬ (80 : Int) < (acks.length : Int) := by omega
        simpa using this
      · exact .inl rfl
    rcases hcase with hg | ⟨hg, h8⟩ | ⟨hg, h8⟩
    · rw [hg] at HLG
      clear hg
      go_enter Try.func3, Try.ntmps3
      go_wp2_with fail
      refine (both_good _ ses N HSN.out.1 HSN.out.2).mono ?_
      rintro e w1 ⟨a, b, p, rfl, _, _, _, _, _, _, hb1⟩
      have HB1 := Aside0.mk hb1
      clear hb1
      go_wp2_with fail
      refine (HLG.out _ HB1.out).mono ?_
      rintro e w2 ⟨rfl, rfl⟩
      go_wp2_with fail
      refine (ealive_calls _).mono ?_
      rintro e w3 ⟨rfl, hb3⟩
      have HB3 := Aside0.mk (HB1.out.trans (hb3.mono HB1.out.size))
      clear hb3
      go_wp2_with fail
      go_ret
      exact ⟨rfl, HB3.out⟩
    · rw [hg] at HLG
      clear hg
      go_enter Try.func3, Try.ntmps3
      go_wp2_with fail
      refine (both_good _ ses N HSN.out.1 HSN.out.2).mono ?_
      rintro e w1 ⟨a, b, p, rfl, _, _, _, _, _, _, hb1⟩
      have HB1 := Aside0.mk hb1
      clear hb1
      go_wp2_with fail
      refine (HLG.out _ HB1.out).mono ?_
      rintro e w2 ⟨rfl, rfl⟩
      go_wp2_with fail
      refine (ealive_calls _).mono ?_
      rintro e w3 ⟨rfl, hb3⟩
      have HB3 := Aside0.mk (HB1.out.trans (hb3.mono HB1.out.size))
      clear hb3
      go_wp2_with fail
      go_ret
      exact ⟨rfl, HB3.out⟩
    · rw [hg] at HLG
      obtain ⟨hl80, _⟩ := longT_no hg
      clear hg
      go_enter Try.func3, Try.ntmps3
      go_wp2_with fail
      refine (both_good _ ses N HSN.out.1 HSN.out.2).mono ?_
      rintro e w1 ⟨a, b, p, rfl, ha, _, _, he, _, hp, hb1⟩
      have HE1 : Aside0 (EX w.heap.size w1 a (newE ses N) (fun _ => False)) := ⟨_, he, fun k h => ⟨by rw [h]; exact ha, by rw [h]; exact he.is.1, id⟩⟩
      have HB1 := Aside0.mk hb1
      have c0 : w1.cell? ⟨p, 0, none⟩ = some (.pointer (some ⟨a, 0, none⟩)) := by simp [World.cell?, hp]
      clear hb1 he hp ha
      go_wp2_with fail
      refine (HLG.out _ HB1.out).mono ?_
      rintro e w2 ⟨rfl, hw2⟩
      have hw2 := hw2.symm
      subst hw2
      go_wp2_with fail
      clear c0
      go_loopw [11] (fun v11 wr => ∃ (i : Nat) (s : Es), i ≤ l.length ∧ v11 = .int .i64 i ∧ Aside0 (Below w.heap.size w wr) ∧ Aside0 (EX w.heap.size wr a s (fun _ => False)) ∧ Aside0 (s.win = N)) (fun v _ => l.length - (intOf v).toNat)
      case atStart => exact ⟨0, _, by omega, rfl, HB1, HE1, ⟨rfl⟩⟩
      case round =>
        obtain ⟨i, s, hi, rfl, HB, HE, HW⟩ := hrel
        by_cases hlt : i < l.length
        · have hlt' : (i : Int) < (l.length : Int) := by omega
          obtain ⟨ad, B1, c1, rfl, k0, _, hrd⟩ := text_at (Kd.C_below HL.out HB.out) hlt
          have HM : Aside0 (l.getD i [] ∈ l) := ⟨by rw [List.getD_eq_getElem?_getD, List.getElem?_eq_getElem hlt]; exact List.getElem_mem hlt⟩
          have HRD := Aside0.mk hrd
          have HYB := Aside0.mk (HLB.out _ HM.out)
          have HWP := Aside0.mk (s.put_win (l.getD i []))
          obtain ⟨y, hy⟩ : ∃ y, y = l.getD i [] := ⟨_, rfl⟩
          rw [← hy] at k0 HRD HYB HWP
          have hx0 : ∀ k, (fun _ : Nat => False) k → k < wr.heap.size := fun k h => h.elim
          have HPC := Aside0.mk (HE.out.put hx0 HB.out.size (fun F hF => eput_calls wr a s F B1 c1 y hF HRD.out HYB.out))
          obtain ⟨s2, hs2⟩ : ∃ s2, s2 = (s.put y).1 := ⟨_, rfl⟩
          rw [← hs2] at HPC HWP
          clear hy hrd HM hx0 hs2
          go_wp2_with fail
          refine HPC.out.mono ?_
          rintro e w2 ⟨rfl, he2, hk2⟩
          have HE2 := Aside0.mk he2
          have HB2 := Aside0.mk (HB.out.trans hk2.below)
          clear he2 hk2 k0 HPC
          by_cases hac : i < acks.length
          · have hac' : (i : Int) < (acks.length : Int) := by omega
            obtain ⟨bd, rfl, hcell⟩ := Kd.at_int (Kd.C_below HA.out HB2.out) (i : Int) (by omega) (by omega)
            have hcell : w2.cell? (bd.add i) = some (.int .i64 (acks.getD i 0)) := hcell
            have HKB : Aside0 (-9223372036854775808 ≤ acks.getD i 0 ∧ acks.getD i 0 ≤ 9223372036854775807) := ⟨HAB.out _ (by rw [List.getD_eq_getElem?_getD, List.getElem?_eq_getElem hac]; exact List.getElem_mem hac)⟩
            obtain ⟨x, hx⟩ : ∃ x, x = acks.getD i 0 := ⟨_, rfl⟩
            rw [← hx] at hcell HKB
            have HOC := Aside0.mk (HE2.out.on HB2.out.size (fun F hF _ => eon_calls w2 a s2 F ⟨ses, 0, x, []⟩ none 0 hF (Kd.C_nil _ _) ⟨⟨by show 0 ≤ ses; have := HSN.out; omega, HSN.out.1.2⟩, ⟨by show -9223372036854775808 ≤ (0 : Int); decide, by show (0 : Int) ≤ 9223372036854775807; decide⟩, HKB.out, Bytes.nil⟩ (Nat.zero_le _) (fun W _ => Kd.C_nil _ _)))
            have HW3 : Aside0 ((s2.on ⟨ses, 0, x, []⟩).1.win = N) := ⟨by rw [Es.on_win, HWP.out, HW.out]⟩
            obtain ⟨s3, hs3⟩ : ∃ s3, s3 = (s2.on ⟨ses, 0, x, []⟩).1 := ⟨_, rfl⟩
            rw [← hs3] at HOC HW3
            clear hx hs3
            go_wp2_with fail
            refine HOC.out.mono ?_
            rintro e w3 ⟨A3, d3, rfl, _, he3, hk3⟩
            have HE3 := Aside0.mk he3
            have HB3 := Aside0.mk (HB2.out.trans hk3.below)
            clear he3 hk3 hcell HOC
            go_wp2_with fail
            obtain ⟨F3, hF3, _⟩ := HE3.out
            refine (eframes_calls _ a s3 F3 hF3).mono ?_
            rintro e w4 ⟨A4, c4, rfl, hf4, hb4⟩
            have hok3 := HE3.out.ok
            obtain ⟨hM1, hM2, hM3, hM4⟩ := Es.frames_bound hok3
            have hw3 := HW3.out
            obtain ⟨M, hM⟩ : ∃ M, M = s3.frames.length := ⟨_, rfl⟩
            have HMM := Aside0.mk hM
            rw [← hM] at hM1 hM2 hM3 hM4 ⊢
            have HF4 := Aside0.mk hf4
            have HE4 := Aside0.mk (HE3.out.below hb4)
            have HB4 := Aside0.mk (HB3.out.trans (hb4.mono HB3.out.size))
            obtain ⟨Q, hQ⟩ : ∃ Q, Q = s3.q.length := ⟨_, rfl⟩
            have HWT : Aside0 (Calls Try.prog 15 #[.pointer (some ⟨a, 0, none⟩)] w4 fun e w' => e = .returned (.int .i64 Q) ∧ w' = w4) := ⟨by obtain ⟨F4, h4, _⟩ := HE4.out; rw [hQ]; exact ewaiting_calls w4 a s3 F4 h4⟩
            rw [← hQ] at hM3
            have HNN := Aside0.mk (show M ≤ N by omega)
            have g1 : ¬ (N : Int) < (M : Int) := by omega
            have g2 : ¬ (M : Int) < 1 := by omega
            have hqc : (Q = 0) ∨ (0 < Q ∧ M ≤ Q) := by omega
            clear hf4 hb4 hok3 hM1 hM2 hM3 hw3 hM hQ hF3
            rcases hqc with hq0 | ⟨hq0, hq1⟩
            · have g3 : ¬ (0 : Int) < (Q : Int) := by omega
              clear hq0
              go_wp2_with (go_at_call 15; refine HWT.out.mono ?_; rintro e w' ⟨rfl, hw'⟩; have hw' := hw'.symm; subst hw')
              go_loopw [13] (fun v13 wq => ∃ k : Nat, 1 ≤ k ∧ k ≤ M ∧ v13 = .int .i64 k ∧ Aside0 (Below w4.heap.size w4 wq)) (fun v _ => M - (intOf v).toNat)
              case atStart => exact ⟨1, by omega, by omega, rfl, ⟨Below.refl _ _⟩⟩
              case round =>
                obtain ⟨k, hk1, hkM, rfl, HBQ⟩ := hrel
                by_cases hlt2 : k < M
                · have hkl : k < s3.frames.length := by rw [← HMM.out]; exact hlt2
                  obtain ⟨k1, hk1'⟩ : ∃ k1, k = k1 + 1 := ⟨k - 1, by omega⟩
                  have hf0 := HF4.out
                  rw [← HMM.out] at hf0
                  obtain ⟨g, off, Au, du, rfl, _, _, x1, _, _, _⟩ := (hf0.below HBQ.out).get (Es.frames_get hk1 hkl k (Nat.le_refl _))
                  obtain ⟨g', off', Au', du', e', _, _, y1, _, _, _⟩ := (hf0.below HBQ.out).get (Es.frames_get hk1 hkl k1 (by omega))
                  obtain ⟨rfl, rfl⟩ : g = g' ∧ off = off' := by simpa using e'
                  obtain ⟨X, hX⟩ : ∃ X, X = s3.first + k1 := ⟨_, rfl⟩
                  have hfb := HE3.out.ok.2.2.2.2.1
                  have hqb : s3.first + k1 ≤ 70000 := by omega
                  have ex1 : (s3.frame k).q = ((X + 1 : Nat) : Int) := by unfold Es.frame; dsimp only; omega
                  have ey1 : (s3.frame k1).q = (X : Int) := by unfold Es.frame; dsimp only; omega
                  rw [ex1, Nat.mul_comm] at x1
                  rw [ey1, Nat.mul_comm] at y1
                  obtain ⟨Y, hY⟩ : ∃ Y, Y = X + 1 := ⟨_, rfl⟩
                  rw [← hY] at x1
                  have f1 : (k : Int) - 1 = (k1 : Int) := by omega
                  have f2 : IntKind.i64.wrap ((k : Int) - 1) = (k1 : Int) := by rw [IntWalk.i64_in _ (by omega)]; omega
                  have f3 : IntKind.i64.wrap (k1 : Int) = (k1 : Int) := IntWalk.i64_in _ (by omega)
                  have f4 : (X : Int) + 1 = (Y : Int) := by omega
                  have f5 : IntKind.i64.wrap ((X : Int) + 1) = (Y : Int) := by rw [IntWalk.i64_in _ (by omega)]; omega
                  have f6 : IntKind.i64.wrap (Y : Int) = (Y : Int) := IntWalk.i64_in _ (by omega)
                  have f7 : ((Y : Int) != (Y : Int)) = false := by simp
                  have f8 : (k : Int) < (M : Int) := by omega
                  have f9 : (k1 : Int) < (M : Int) := by omega
                  have hM16 : k ≤ 16 := by omega
                  clear hf0 hkl e' ex1 ey1 hX hY hfb hqb hk1'
                  go_wp2_with fail
                  go_quiet (fail)
                  have HBQ2 : Aside0 (Below w4.heap.size w4 (wr.drewN nq)) := ⟨pw_below_drewN HBQ.out _⟩
                  go_wp2_with fail
                  exact ⟨⟨k + 1, by omega, by omega, by go_num, HBQ2⟩, by simp [intOf]; omega⟩
                · have f8 : ¬ (k : Int) < (M : Int) := by omega
                  have hi80 : i < 80 := by omega
                  clear hlt2
                  go_wp2_with fail
                  exact ⟨⟨i + 1, s3, by omega, by go_num, ⟨HB4.out.trans (HBQ.out.mono HB4.out.size)⟩, ⟨HE4.out.below HBQ.out⟩, HW3⟩, by simp [intOf]; omega⟩
            · have g3 : (0 : Int) < (Q : Int) := by omega
              have g4 : ¬ (Q : Int) < (M : Int) := by omega
              clear hq0 hq1
              go_wp2_with (go_at_call 15; refine HWT.out.mono ?_; rintro e w' ⟨rfl, hw'⟩; have hw' := hw'.symm; subst hw')
              go_loopw [13] (fun v13 wq => ∃ k : Nat, 1 ≤ k ∧ k ≤ M ∧ v13 = .int .i64 k ∧ Aside0 (Below w4.heap.size w4 wq)) (fun v _ => M - (intOf v).toNat)
              case atStart => exact ⟨1, by omega, by omega, rfl, ⟨Below.refl _ _⟩⟩
              case round =>
                obtain ⟨k, hk1, hkM, rfl, HBQ⟩ := hrel
                by_cases hlt2 : k < M
                · have hkl : k < s3.frames.length := by rw [← HMM.out]; exact hlt2
                  obtain ⟨k1, hk1'⟩ : ∃ k1, k = k1 + 1 := ⟨k - 1, by omega⟩
                  have hf0 := HF4.out
                  rw [← HMM.out] at hf0
                  obtain ⟨g, off, Au, du, rfl, _, _, x1, _, _, _⟩ := (hf0.below HBQ.out).get (Es.frames_get hk1 hkl k (Nat.le_refl _))
                  obtain ⟨g', off', Au', du', e', _, _, y1, _, _, _⟩ := (hf0.below HBQ.out).get (Es.frames_get hk1 hkl k1 (by omega))
                  obtain ⟨rfl, rfl⟩ : g = g' ∧ off = off' := by simpa using e'
                  obtain ⟨X, hX⟩ : ∃ X, X = s3.first + k1 := ⟨_, rfl⟩
                  have hfb := HE3.out.ok.2.2.2.2.1
                  have hqb : s3.first + k1 ≤ 70000 := by omega
                  have ex1 : (s3.frame k).q = ((X + 1 : Nat) : Int) := by unfold Es.frame; dsimp only; omega
                  have ey1 : (s3.frame k1).q = (X : Int) := by unfold Es.frame; dsimp only; omega
                  rw [ex1, Nat.mul_comm] at x1
                  rw [ey1, Nat.mul_comm] at y1
                  obtain ⟨Y, hY⟩ : ∃ Y, Y = X + 1 := ⟨_, rfl⟩
                  rw [← hY] at x1
                  have f1 : (k : Int) - 1 = (k1 : Int) := by omega
                  have f2 : IntKind.i64.wrap ((k : Int) - 1) = (k1 : Int) := by rw [IntWalk.i64_in _ (by omega)]; omega
                  have f3 : IntKind.i64.wrap (k1 : Int) = (k1 : Int) := IntWalk.i64_in _ (by omega)
                  have f4 : (X : Int) + 1 = (Y : Int) := by omega
                  have f5 : IntKind.i64.wrap ((X : Int) + 1) = (Y : Int) := by rw [IntWalk.i64_in _ (by omega)]; omega
                  have f6 : IntKind.i64.wrap (Y : Int) = (Y : Int) := IntWalk.i64_in _ (by omega)
                  have f7 : ((Y : Int) != (Y : Int)) = false := by simp
                  have f8 : (k : Int) < (M : Int) := by omega
                  have f9 : (k1 : Int) < (M : Int) := by omega
                  have hM16 : k ≤ 16 := by omega
                  clear hf0 hkl e' ex1 ey1 hX hY hfb hqb hk1'
                  go_wp2_with fail
                  go_quiet (fail)
                  have HBQ2 : Aside0 (Below w4.heap.size w4 (wr.drewN nq)) := ⟨pw_below_drewN HBQ.out _⟩
                  go_wp2_with fail
                  exact ⟨⟨k + 1, by omega, by omega, by go_num, HBQ2⟩, by simp [intOf]; omega⟩
                · have f8 : ¬ (k : Int) < (M : Int) := by omega
                  have hi80 : i < 80 := by omega
                  clear hlt2
                  go_wp2_with fail
                  exact ⟨⟨i + 1, s3, by omega, by go_num, ⟨HB4.out.trans (HBQ.out.mono HB4.out.size)⟩, ⟨HE4.out.below HBQ.out⟩, HW3⟩, by simp [intOf]; omega⟩
          · have hac' : ¬ (i : Int) < (acks.length : Int) := by omega
            obtain ⟨s3, hs3⟩ : ∃ s3, s3 = s2 := ⟨_, rfl⟩
            have HW3 : Aside0 (s3.win = N) := ⟨by rw [hs3, HWP.out, HW.out]⟩
            obtain ⟨w3, hw3⟩ : ∃ w3, w3 = w2 := ⟨_, rfl⟩
            rw [← hs3] at HE2
            have HE3 : Aside0 (EX w.heap.size w3 a s3 (fun _ => False)) := ⟨by rw [hw3]; exact HE2.out⟩
            have HB3 : Aside0 (Below w.heap.size w w3) := ⟨by rw [hw3]; exact HB2.out⟩
            clear hs3
            go_wp2_with fail
            rw [← hw3]
            clear hw3
            obtain ⟨F3, hF3, _⟩ := HE3.out
            refine (eframes_calls _ a s3 F3 hF3).mono ?_
            rintro e w4 ⟨A4, c4, rfl, hf4, hb4⟩
            have hok3 := HE3.out.ok
            obtain ⟨hM1, hM2, hM3, hM4⟩ := Es.frames_bound hok3
            have hw3 := HW3.out
            obtain ⟨M, hM⟩ : ∃ M, M = s3.frames.length := ⟨_, rfl⟩
            have HMM := Aside0.mk hM
            rw [← hM] at hM1 hM2 hM3 hM4 ⊢
            have HF4 := Aside0.mk hf4
            have HE4 := Aside0.mk (HE3.out.below hb4)
            have HB4 := Aside0.mk (HB3.out.trans (hb4.mono HB3.out.size))
            obtain ⟨Q, hQ⟩ : ∃ Q, Q = s3.q.length := ⟨_, rfl⟩
            have HWT : Aside0 (Calls Try.prog 15 #[.pointer (some ⟨a, 0, none⟩)] w4 fun e w' => e = .returned (.int .i64 Q) ∧ w' = w4) := ⟨by obtain ⟨F4, h4, _⟩ := HE4.out; rw [hQ]; exact ewaiting_calls w4 a s3 F4 h4⟩
            rw [← hQ] at hM3
            have HNN := Aside0.mk (show M ≤ N by omega)
            have g1 : ¬ (N : Int) < (M : Int) := by omega
            have g2 : ¬ (M : Int) < 1 := by omega
            have hqc : (Q = 0) ∨ (0 < Q ∧ M ≤ Q) := by omega
            clear hf4 hb4 hok3 hM1 hM2 hM3 hw3 hM hQ hF3
            rcases hqc with hq0 | ⟨hq0, hq1⟩
            · have g3 : ¬ (0 : Int) < (Q : Int) := by omega
              clear hq0
              go_wp2_with (go_at_call 15; refine HWT.out.mono ?_; rintro e w' ⟨rfl, hw'⟩; have hw' := hw'.symm; subst hw')
              go_loopw [13] (fun v13 wq => ∃ k : Nat, 1 ≤ k ∧ k ≤ M ∧ v13 = .int .i64 k ∧ Aside0 (Below w4.heap.size w4 wq)) (fun v _ => M - (intOf v).toNat)
              case atStart => exact ⟨1, by omega, by omega, rfl, ⟨Below.refl _ _⟩⟩
              case round =>
                obtain ⟨k, hk1, hkM, rfl, HBQ⟩ := hrel
                by_cases hlt2 : k < M
                · have hkl : k < s3.frames.length := by rw [← HMM.out]; exact hlt2
                  obtain ⟨k1, hk1'⟩ : ∃ k1, k = k1 + 1 := ⟨k - 1, by omega⟩
                  have hf0 := HF4.out
                  rw [← HMM.out] at hf0
                  obtain ⟨g, off, Au, du, rfl, _, _, x1, _, _, _⟩ := (hf0.below HBQ.out).get (Es.frames_get hk1 hkl k (Nat.le_refl _))
                  obtain ⟨g', off', Au', du', e', _, _, y1, _, _, _⟩ := (hf0.below HBQ.out).get (Es.frames_get hk1 hkl k1 (by omega))
                  obtain ⟨rfl, rfl⟩ : g = g' ∧ off = off' := by simpa using e'
                  obtain ⟨X, hX⟩ : ∃ X, X = s3.first + k1 := ⟨_, rfl⟩
                  have hfb := HE3.out.ok.2.2.2.2.1
                  have hqb : s3.first + k1 ≤ 70000 := by omega
                  have ex1 : (s3.frame k).q = ((X + 1 : Nat) : Int) := by unfold Es.frame; dsimp only; omega
                  have ey1 : (s3.frame k1).q = (X : Int) := by unfold Es.frame; dsimp only; omega
                  rw [ex1, Nat.mul_comm] at x1
                  rw [ey1, Nat.mul_comm] at y1
                  obtain ⟨Y, hY⟩ : ∃ Y, Y = X + 1 := ⟨_, rfl⟩
                  rw [← hY] at x1
                  have f1 : (k : Int) - 1 = (k1 : Int) := by omega
                  have f2 : IntKind.i64.wrap ((k : Int) - 1) = (k1 : Int) := by rw [IntWalk.i64_in _ (by omega)]; omega
                  have f3 : IntKind.i64.wrap (k1 : Int) = (k1 : Int) := IntWalk.i64_in _ (by omega)
                  have f4 : (X : Int) + 1 = (Y : Int) := by omega
                  have f5 : IntKind.i64.wrap ((X : Int) + 1) = (Y : Int) := by rw [IntWalk.i64_in _ (by omega)]; omega
                  have f6 : IntKind.i64.wrap (Y : Int) = (Y : Int) := IntWalk.i64_in _ (by omega)
                  have f7 : ((Y : Int) != (Y : Int)) = false := by simp
                  have f8 : (k : Int) < (M : Int) := by omega
                  have f9 : (k1 : Int) < (M : Int) := by omega
                  have hM16 : k ≤ 16 := by omega
                  clear hf0 hkl e' ex1 ey1 hX hY hfb hqb hk1'
                  go_wp2_with fail
                  go_quiet (fail)
                  have HBQ2 : Aside0 (Below w4.heap.size w4 (wr.drewN nq)) := ⟨pw_below_drewN HBQ.out _⟩
                  go_wp2_with fail
                  exact ⟨⟨k + 1, by omega, by omega, by go_num, HBQ2⟩, by simp [intOf]; omega⟩
                · have f8 : ¬ (k : Int) < (M : Int) := by omega
                  have hi80 : i < 80 := by omega
                  clear hlt2
                  go_wp2_with fail
                  exact ⟨⟨i + 1, s3, by omega, by go_num, ⟨HB4.out.trans (HBQ.out.mono HB4.out.size)⟩, ⟨HE4.out.below HBQ.out⟩, HW3⟩, by simp [intOf]; omega⟩
            · have g3 : (0 : Int) < (Q : Int) := by omega
              have g4 : ¬ (Q : Int) < (M : Int) := by omega
              clear hq0 hq1
              go_wp2_with (go_at_call 15; refine HWT.out.mono ?_; rintro e w' ⟨rfl, hw'⟩; have hw' := hw'.symm; subst hw')
              go_loopw [13] (fun v13 wq => ∃ k : Nat, 1 ≤ k ∧ k ≤ M ∧ v13 = .int .i64 k ∧ Aside0 (Below w4.heap.size w4 wq)) (fun v _ => M - (intOf v).toNat)
              case atStart => exact ⟨1, by omega, by omega, rfl, ⟨Below.refl _ _⟩⟩
              case round =>
                obtain ⟨k, hk1, hkM, rfl, HBQ⟩ := hrel
                by_cases hlt2 : k < M
                · have hkl : k < s3.frames.length := by rw [← HMM.out]; exact hlt2
                  obtain ⟨k1, hk1'⟩ : ∃ k1, k = k1 + 1 := ⟨k - 1, by omega⟩
                  have hf0 := HF4.out
                  rw [← HMM.out] at hf0
                  obtain ⟨g, off, Au, du, rfl, _, _, x1, _, _, _⟩ := (hf0.below HBQ.out).get (Es.frames_get hk1 hkl k (Nat.le_refl _))
                  obtain ⟨g', off', Au', du', e', _, _, y1, _, _, _⟩ := (hf0.below HBQ.out).get (Es.frames_get hk1 hkl k1 (by omega))
                  obtain ⟨rfl, rfl⟩ : g = g' ∧ off = off' := by simpa using e'
                  obtain ⟨X, hX⟩ : ∃ X, X = s3.first + k1 := ⟨_, rfl⟩
                  have hfb := HE3.out.ok.2.2.2.2.1
                  have hqb : s3.first + k1 ≤ 70000 := by omega
                  have ex1 : (s3.frame k).q = ((X + 1 : Nat) : Int) := by unfold Es.frame; dsimp only; omega
                  have ey1 : (s3.frame k1).q = (X : Int) := by unfold Es.frame; dsimp only; omega
                  rw [ex1, Nat.mul_comm] at x1
                  rw [ey1, Nat.mul_comm] at y1
                  obtain ⟨Y, hY⟩ : ∃ Y, Y = X + 1 := ⟨_, rfl⟩
                  rw [← hY] at x1
                  have f1 : (k : Int) - 1 = (k1 : Int) := by omega
                  have f2 : IntKind.i64.wrap ((k : Int) - 1) = (k1 : Int) := by rw [IntWalk.i64_in _ (by omega)]; omega
                  have f3 : IntKind.i64.wrap (k1 : Int) = (k1 : Int) := IntWalk.i64_in _ (by omega)
                  have f4 : (X : Int) + 1 = (Y : Int) := by omega
                  have f5 : IntKind.i64.wrap ((X : Int) + 1) = (Y : Int) := by rw [IntWalk.i64_in _ (by omega)]; omega
                  have f6 : IntKind.i64.wrap (Y : Int) = (Y : Int) := IntWalk.i64_in _ (by omega)
                  have f7 : ((Y : Int) != (Y : Int)) = false := by simp
                  have f8 : (k : Int) < (M : Int) := by omega
                  have f9 : (k1 : Int) < (M : Int) := by omega
                  have hM16 : k ≤ 16 := by omega
                  clear hf0 hkl e' ex1 ey1 hX hY hfb hqb hk1'
                  go_wp2_with fail
                  go_quiet (fail)
                  have HBQ2 : Aside0 (Below w4.heap.size w4 (wr.drewN nq)) := ⟨pw_below_drewN HBQ.out _⟩
                  go_wp2_with fail
                  exact ⟨⟨k + 1, by omega, by omega, by go_num, HBQ2⟩, by simp [intOf]; omega⟩
                · have f8 : ¬ (k : Int) < (M : Int) := by omega
                  have hi80 : i < 80 := by omega
                  clear hlt2
                  go_wp2_with fail
                  exact ⟨⟨i + 1, s3, by omega, by go_num, ⟨HB4.out.trans (HBQ.out.mono HB4.out.size)⟩, ⟨HE4.out.below HBQ.out⟩, HW3⟩, by simp [intOf]; omega⟩
        · have hlt' : ¬ (i : Int) < (l.length : Int) := by omega
          go_wp2_with fail
          refine (ealive_calls _).mono ?_
          rintro e w3 ⟨rfl, hb3⟩
          have HB3 := Aside0.mk (HB.out.trans (hb3.mono HB.out.size))
          clear hb3
          go_wp2_with fail
          go_ret
          exact ⟨rfl, HB3.out⟩
end Go.Proofs.Ytcpkfkcemaihfaa.Oct
