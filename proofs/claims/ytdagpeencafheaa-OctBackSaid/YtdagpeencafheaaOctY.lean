import Derived.Test.YtdagpeencafheaaOctX
/- OctAgain. -/
namespace Go.Proofs.Ytdagpeencafheaa.Oct
open Go.RowKit Go.Proofs.YtdagpeencafheaaW.PrintWords Go.Proofs.Ytdagpeencafheaa.M
set_option linter.unusedVariables false
set_option linter.unusedSimpArgs false
theorem C_take {w : World} {A : Option Addr} {xs : List Int} (h : (Kd.int .u8).C w A xs.length xs) (n : Nat) (hn : n ≤ xs.length) : (Kd.int .u8).C w A (xs.take n).length (xs.take n) := by
  refine ⟨rfl, by rw [List.length_take]; exact Nat.le_trans (Nat.min_le_right _ _) h.2.1, fun h0 => ?_⟩
  rw [List.length_take] at h0
  obtain ⟨ad, e, hc⟩ := h.2.2 (by omega)
  refine ⟨ad, e, fun j y hy => ?_⟩
  rw [List.getElem?_take] at hy
  split at hy
  · exact hc j y hy
  · cases hy
theorem split_at (w : World) (n : Nat) (b : List Int) (A : Option Addr) (c : Nat) (hn : n = b.length) (hcap : b.length ≤ c) (h : Kd.C (Kd.int .u8) w A b.length b) (hb : Bytes b) (hlen : b.length ≤ 1000000) : Calls Try.prog 28 #[.slice A n c] w (RetSplit w b) := by
  subst hn
  exact split_calls w b A c hcap h hb hlen
set_option maxHeartbeats 8000000 in
theorem again_calls (w : World) (A : Option Addr) (c : Nat) (b : List Int) (i : Int) (hr : Kd.C (Kd.int .u8) w A b.length b) (hx : Bytes b) (hc : b.length ≤ c) (hi : -9223372036854775808 ≤ i ∧ i ≤ 9223372036854775807) :
    Calls Try.prog 10 #[.slice A b.length c, .int .i64 i] w (Yes w) := by
  have HR := Aside0.mk hr
  have HX := Aside0.mk hx
  have HC := Aside0.mk hc
  have hl : b.length ≤ 9223372036854775807 := hr.2.1
  obtain ⟨hi0, hi1⟩ := hi
  have hbc : (b.length : Int) ≤ (c : Int) := by omega
  clear hr hx hc
  by_cases h2 : 4000 < (b.length : Int)
  · go_enter Try.func10, Try.ntmps10
    go_wp2_with fail
    refine (alive_calls _).mono ?_
    rintro e w3 ⟨rfl, hb3⟩
    have HB3 := Aside0.mk hb3
    clear hb3
    go_wp2_with fail
    go_ret
    exact ⟨rfl, HB3.out⟩
  · have h2' : (b.length : Int) ≤ 4000 := by omega
    have HL2 : Aside0 (b.length ≤ 4000) := ⟨by omega⟩
    clear h2
    have hcase : i < 0 ∨ (0 ≤ i ∧ (b.length : Int) ≤ i) ∨ (0 ≤ i ∧ i < (b.length : Int)) := by omega
    have HFO := Aside0.mk (split_form b)
    have HAG : Aside0 ((splitE b).2 = 0 → joinM (splitP b) = (b, 0)) := ⟨split_again HX.out⟩
    have HFW : Aside0 (∀ n, n < b.length → (splitE b).2 = 0 → (splitE (b.take n)).2 ≠ 0 ∨ (splitP (b.take n)).length < (splitP b).length) := ⟨fun n hn h => split_fewer hn h⟩
    obtain ⟨f1, hf1⟩ : ∃ f1, f1 = (splitE b).1 := ⟨_, rfl⟩
    obtain ⟨f2, hf2⟩ : ∃ f2, f2 = (splitE b).2 := ⟨_, rfl⟩
    obtain ⟨ls, hls⟩ : ∃ ls, ls = splitP b := ⟨_, rfl⟩
    have HF := Aside0.mk (And.intro hf1 (And.intro hf2 hls))
    have hff : f2 = 0 ∨ (f2 ≠ 0 ∧ ls = [] ∧ 0 ≤ f1 ∧ f1 < (b.length : Int)) := by
      rcases HFO.out with ⟨_, h⟩ | ⟨_, h, h3, h4, h5⟩
      · exact .inl (by rw [hf2, h])
      · exact .inr ⟨by rw [hf2]; exact h3, by rw [hls]; exact h, by rw [hf1]; exact h4, by rw [hf1]; exact h5⟩
    rw [← hf2, ← hls] at HAG
    rw [← hf2, ← hls] at HFW
    clear hf1 hf2 hls
    go_enter Try.func10, Try.ntmps10
    go_wp2_with fail
    refine (split_calls _ b A c HC.out HR.out HX.out (by have := HL2.out; omega)).mono ?_
    rintro e w2 ⟨r, rfl, hrw, hb2⟩
    rw [← HF.out.1, ← HF.out.2.1]
    rw [← HF.out.2.2] at hrw
    obtain ⟨Ax, cx, rfl, _⟩ := hrw.reads
    obtain ⟨w3, hw3⟩ : ∃ w3, w3 = w2.alloc (.cells #[.int .i64 f1, .int .i64 f2] 42) := ⟨_, rfl⟩
    have hbx : Below w2.heap.size w2 w3 := by rw [hw3]; exact below_alloc (Below.refl _ _) _
    have hh3 : w3.heap[w2.heap.size]? = some (.cells #[.int .i64 f1, .int .i64 f2] 42 (0, 0)) := by rw [hw3]; exact heap_alloc_new w2 _
    have HRW := Aside0.mk (hrw.below hbx)
    have HB3 := Aside0.mk (hb2.trans (hbx.mono hb2.size))
    have HH3 := Aside0.mk hh3
    rcases hff with h0 | ⟨h0, hle, hf10, hf11⟩
    · have HAJ := Aside0.mk (HAG.out h0)
      have HCU : Aside0 (∀ n, n < b.length → (splitE (b.take n)).2 ≠ 0 ∨ (splitP (b.take n)).length < ls.length) := ⟨fun n hn => HFW.out n hn h0⟩
      subst h0
      clear hrw hb2 hbx hh3 HFO HAG HFW
      go_wp2_with fail
      rw [← hw3]
      clear hw3
      obtain ⟨_, _, ex, hrx⟩ := HRW.out.reads
      cases ex
      refine (join_calls _ ls Ax cx hrx).mono ?_
      rintro e w4 ⟨r4, hr4, ho4, hb4⟩
      rw [HAJ.out] at hr4 ho4
      subst hr4
      obtain ⟨A4, c4, rfl, _⟩ := ho4.reads
      have HB4 := Aside0.mk (HB3.out.trans (hb4.mono HB3.out.size))
      have s1 := ho4.string
      have s2 := C_str (c := c) (Kd.C_below HR.out HB4.out)
      obtain ⟨S, hS⟩ : ∃ S, S = strOfNums b := ⟨_, rfl⟩
      rw [← hS] at s1 s2
      have hE1 : (S.toList == S.toList) = true := beq_self_eq_true _
      have hE2 : (S.toList != S.toList) = false := bne_self_eq_false _
      obtain ⟨m, hm⟩ : ∃ m, m = ls.length := ⟨_, rfl⟩
      rw [← hm] at HCU
      rw [← hm]
      clear ho4 hb4 hS hrx hm
      rcases hcase with h | ⟨h, h'⟩ | ⟨h, h'⟩
      · go_wp2_with fail
        refine (alive_calls _).mono ?_
        rintro e w5 ⟨rfl, hb5⟩
        have HB5 := Aside0.mk (HB4.out.trans (hb5.mono HB4.out.size))
        clear hb5 s1 s2
        go_wp2_with fail
        go_ret
        exact ⟨rfl, HB5.out⟩
      · go_wp2_with fail
        refine (alive_calls _).mono ?_
        rintro e w5 ⟨rfl, hb5⟩
        have HB5 := Aside0.mk (HB4.out.trans (hb5.mono HB4.out.size))
        clear hb5 s1 s2
        go_wp2_with fail
        go_ret
        exact ⟨rfl, HB5.out⟩
      · obtain ⟨n, rfl⟩ := Int.eq_ofNat_of_zero_le h
        have hn : n < b.length := by omega
        obtain ⟨ad, rfl, _⟩ := C_byte HR.out (k := 0) (by omega)
        have hnl : (n : Int) ≤ (b.length : Int) := by omega
        have hnc : (n : Int) ≤ (c : Int) := by omega
        have HNL : Aside0 (n = (b.take n).length) := ⟨by rw [List.length_take]; omega⟩
        have HTB := Aside0.mk (HX.out.take n)
        have HNC : Aside0 ((b.take n).length ≤ c ∧ (b.take n).length ≤ 1000000) := ⟨by rw [List.length_take]; have := HL2.out; omega⟩
        have HTC := Aside0.mk (C_take (Kd.C_below HR.out HB4.out) n (Nat.le_of_lt hn))
        have HCN := Aside0.mk (HCU.out n hn)
        obtain ⟨q, hq⟩ : ∃ q, q = b.take n := ⟨_, rfl⟩
        rw [← hq] at HNL HTB HNC HTC HCN
        clear hq hn
        go_wp2_with fail
        refine (split_at _ n q (some ad) c HNL.out HNC.out.1 HTC.out HTB.out HNC.out.2).mono ?_
        rintro e w5 ⟨r5, rfl, hrw5, hb5⟩
        obtain ⟨Ay, cy, rfl, _⟩ := hrw5.reads
        obtain ⟨g1, hg1⟩ : ∃ g1, g1 = (splitE q).1 := ⟨_, rfl⟩
        obtain ⟨g2, hg2⟩ : ∃ g2, g2 = (splitE q).2 := ⟨_, rfl⟩
        obtain ⟨k, hk⟩ : ∃ k, k = (splitP q).length := ⟨_, rfl⟩
        rw [← hg2, ← hk] at HCN
        rw [← hg1, ← hg2, ← hk]
        have hb5' := HB4.out.trans (hb5.mono HB4.out.size)
        have hbx := below_alloc hb5' (.cells #[.int .i64 g1, .int .i64 g2] 42)
        have hh6 := heap_alloc_new w5 (.cells #[.int .i64 g1, .int .i64 g2] 42)
        have HB6 := Aside0.mk hbx
        have HH6 := Aside0.mk hh6
        clear hrw5 hb5 hb5' hbx hh6 hg1 hg2 hk s1 s2
        go_wp2_with fail
        refine (alive_calls _).mono ?_
        rintro e w7 ⟨rfl, hb7⟩
        have HB7 := Aside0.mk (HB6.out.trans (hb7.mono HB6.out.size))
        obtain ⟨t0, t1, _⟩ := two_cells (blk_keep HH6.out hb7) (W' := w7)
        clear hb7
        by_cases hg : g2 = 0
        · subst hg
          have hkm : k < m := by
            rcases HCN.out with h | h
            · exact absurd rfl h
            · exact h
          have hkm' : (k : Int) < (m : Int) := by omega
          clear hkm
          go_wp2_with fail
          go_ret
          exact ⟨rfl, HB7.out⟩
        · have hg' : (g2 != 0) = true := by simpa using hg
          clear hg
          go_wp2_with fail
          go_ret
          exact ⟨rfl, HB7.out⟩
    · have hne : (f2 != 0) = true := by simpa using h0
      subst hle
      clear hrw hb2 hbx hh3 HFO HAG HFW h0 hcase
      go_wp2_with fail
      rw [← hw3]
      clear hw3
      refine (alive_calls _).mono ?_
      rintro e w5 ⟨rfl, hb5⟩
      have HB5 := Aside0.mk (HB3.out.trans (hb5.mono HB3.out.size))
      obtain ⟨t0, t1, _⟩ := two_cells (blk_keep HH3.out hb5) (W' := w5)
      clear hb5
      go_wp2_with fail
      go_ret
      exact ⟨rfl, HB5.out⟩
end Go.Proofs.Ytdagpeencafheaa.Oct
