import Derived.Test.YtcpkfkcemaihfaaSessN
/- The document's On: the walk. -/
namespace Go.Proofs.Ytcpkfkcemaihfaa.Oct
open Go.RowKit Go.Proofs.YtcpkfkcemaihfaaW.PrintWords Go.Proofs.Ytcpkfkcemaihfaa.M
set_option linter.unusedVariables false
set_option linter.unusedSimpArgs false
set_option maxRecDepth 20000 in
set_option maxHeartbeats 16000000 in
theorem don_calls (w : World) (p : Nat) (s : Es) (F : Nat → Prop) (f : FR) (B : Option Addr) (c : Nat) (h : REnd w p s F) (hf : f.ok) (hlen : f.d.length ≤ 140737488355328) (hyk : ∀ W, Kept w F W → Kd.C (Kd.int .u8) W B f.d.length f.d) :
    Calls Try.prog 20 #[.pointer (some ⟨p, 0, none⟩), .agg #[.int .u32 f.s, .int .i64 f.q, .int .i64 f.k, .slice B f.d.length c]] w (RetDn w p F (s.on f)) := by
  have HT := Aside0.mk h
  have HFL := Aside0.mk hlen
  have HYK := Aside0.mk hyk
  have hyl : f.d.length ≤ 9223372036854775807 := by omega
  obtain ⟨_, _, hkb, _⟩ := hf
  have hok := h.is.2.2
  have hl : s.q.length ≤ 64 := hok.2.2.1
  have hfl : s.first + s.q.length ≤ 65535 := hok.2.2.2.2.1
  have hel : s.exp ≤ 65535 := hok.2.2.2.2.2
  obtain ⟨w0, hw0⟩ : ∃ w0, w0 = w.alloc (.cells #[.int .u32 f.s, .int .i64 f.q, .int .i64 f.k, .slice B f.d.length c] 42) := ⟨_, rfl⟩
  have HW0 := Aside0.mk hw0
  have HB0 : Aside0 (Below w.heap.size w w0) := ⟨by rw [hw0]; exact below_alloc (Below.refl _ _) _⟩
  have HF0 : Aside0 (w0.heap[w.heap.size]? = some (.cells #[.int .u32 f.s, .int .i64 f.q, .int .i64 f.k, .slice B f.d.length c] 42 (0, 0))) := ⟨by rw [hw0]; exact heap_alloc_new w _⟩
  have HPL : Aside0 (p < w.heap.size) := ⟨h.is.1⟩
  obtain ⟨v, hh, ⟨vs, ho, hk, he⟩, hp, _⟩ := h.below HB0.out
  have HA := Aside0.mk (And.intro hh (And.intro ho (And.intro hk (And.intro he (And.intro hp hok)))))
  obtain ⟨A, d, rfl, hd⟩ := own_form ho
  obtain ⟨b, hb⟩ : ∃ b, b = w.heap.size := ⟨_, rfl⟩
  have HBB := Aside0.mk hb
  rw [← hb] at HF0
  have HPB : Aside0 (p ≠ b) := ⟨by have := HPL.out; omega⟩
  obtain ⟨n, hn⟩ : ∃ n, n = s.q.length := ⟨_, rfl⟩
  obtain ⟨m, hm⟩ : ∃ m, m = f.d.length := ⟨_, rfl⟩
  have HN := Aside0.mk hn
  have HM := Aside0.mk hm
  obtain ⟨M, hM⟩ : ∃ M, M = s.first + n := ⟨_, rfl⟩
  have HMM := Aside0.mk hM
  have HH0 : Aside0 (w0.heap[p]? = some (.cells #[.int .u32 s.ses, .int .i64 s.win, .slice A n d, .int .i64 M, .int .i64 s.exp] 58 (0, 0))) := ⟨by rw [hM, hn]; exact hh⟩
  rw [← hm] at HF0 HW0 hyl
  rw [← hn] at hl hfl hd
  have HKD : Aside0 (∀ W j, Below w0.heap.size w0 W → Below w0.heap.size w0 (W.drewN j)) := ⟨fun W j hW => pw_below_drewN hW _⟩
  have HKP : Aside0 (∀ W, Below w0.heap.size w0 W → REnd W p s (New w F) ∧ Kept w F W) := ⟨fun W hW => ⟨(HT.out.below (HB0.out.trans (hW.mono HB0.out.size))).mono (fun k hk _ => .inl hk), Kept.of_below F (HB0.out.trans (hW.mono HB0.out.size))⟩⟩
  obtain ⟨⟨c0, c1, c2, c3, c4⟩, f0, f1, f2, f3, f4⟩ := five_cells HH0.out
  obtain ⟨d0, d1, d2, d3⟩ := four_at HF0.out
  have HONU : Aside0 (s.on f = if f.s ≠ s.ses then (s, [], 90) else if f.k < 0 ∨ (s.first : Int) + s.q.length < f.k then (s, [], 91) else if f.d.length = 0 ∨ f.q ≠ s.exp then (s.acked f.k, [], 0) else if s.exp = 65535 then (s.acked f.k, [], 91) else ({ s.acked f.k with exp := s.exp + 1 }, f.d, 0)) := ⟨rfl⟩
  have HK9 : Aside0 (∀ W, Below w0.heap.size w0 W → W.heap[p]? = some (.cells #[.int .u32 s.ses, .int .i64 s.win, .slice A n d, .int .i64 M, .int .i64 s.exp] 58 (0, 0)) ∧ W.heap[b]? = some (.cells #[.int .u32 f.s, .int .i64 f.q, .int .i64 f.k, .slice B m c] 42 (0, 0))) := ⟨fun W hW => ⟨blk_keep HH0.out hW, blk_keep HF0.out hW⟩⟩
  rw [← hm]
  rw [← hn] at HONU
  rw [show (s.first : Int) + (n : Int) = (M : Int) by omega, ← hm] at HONU
  clear h hok hh ho hk he hp hw0 hb hn hm hM hlen hyk
  by_cases h1 : f.s = s.ses
  · have b0 : (f.s != s.ses) = false := by simp [h1]
    have HON1 : Aside0 (s.on f = if f.k < 0 ∨ (M : Int) < f.k then (s, [], 91) else if m = 0 ∨ f.q ≠ s.exp then (s.acked f.k, [], 0) else if s.exp = 65535 then (s.acked f.k, [], 91) else ({ s.acked f.k with exp := s.exp + 1 }, f.d, 0)) := ⟨by rw [HONU.out, if_neg (fun hne => hne h1)]⟩
    clear h1
    have hkc : f.k < 0 ∨ (¬ f.k < 0 ∧ (M : Int) < f.k) ∨ (¬ f.k < 0 ∧ ¬ (M : Int) < f.k) := by omega
    rcases hkc with h2 | ⟨h2, h3⟩ | ⟨h2, h3⟩
    · have HV : Aside0 (s.on f = (s, [], 91)) := ⟨by rw [HON1.out, if_pos (.inl h2)]⟩
      clear HON1 HONU
      go_enter Try.func20, Try.ntmps20
      go_wp2_with fail
      rw [← HW0.out, ← HBB.out]
      go_quiet (fail)
      go_wp2_with fail
      go_quiet (fail)
      go_wp2_with fail
      go_ret2
      exact retdn_nil HV.out (HKP.out _ (HKD.out _ _ (HKD.out _ _ (Below.refl _ _)))).1 (HKP.out _ (HKD.out _ _ (HKD.out _ _ (Below.refl _ _)))).2
    · have HV : Aside0 (s.on f = (s, [], 91)) := ⟨by rw [HON1.out, if_pos (.inr h3)]⟩
      clear HON1 HONU
      go_enter Try.func20, Try.ntmps20
      go_wp2_with fail
      rw [← HW0.out, ← HBB.out]
      go_quiet (fail)
      go_wp2_with fail
      go_quiet (fail)
      go_wp2_with fail
      go_ret2
      exact retdn_nil HV.out (HKP.out _ (HKD.out _ _ (HKD.out _ _ (Below.refl _ _)))).1 (HKP.out _ (HKD.out _ _ (HKD.out _ _ (Below.refl _ _)))).2
    · have HON2 : Aside0 (s.on f = if m = 0 ∨ f.q ≠ s.exp then (s.acked f.k, [], 0) else if s.exp = 65535 then (s.acked f.k, [], 91) else ({ s.acked f.k with exp := s.exp + 1 }, f.d, 0)) := ⟨by rw [HON1.out, if_neg (by omega)]⟩
      have HTE : Aside0 ((s.acked f.k).exp = s.exp) := ⟨Es.acked_exp _ _⟩
      obtain ⟨J, hJ⟩ : ∃ J, J = (f.k - s.first).toNat := ⟨_, rfl⟩
      have HJ := Aside0.mk hJ
      have HJK : Aside0 ((J = 0 ∧ f.k ≤ s.first) ∨ f.k = (s.first : Int) + J) := ⟨by omega⟩
      have HJN : Aside0 (J ≤ n) := ⟨by have := HMM.out; omega⟩
      have HKL : Aside0 (f.k ≤ (s.first : Int) + s.q.length) := ⟨by rw [← HN.out]; have := HMM.out; omega⟩
      have HVL : Aside0 (vs.length = n * 2) := ⟨by rw [HN.out]; exact HA.out.2.1.1⟩
      have HBz : Aside0 (Below w0.heap.size w0 w0) := ⟨Below.refl _ _⟩
      clear hJ hkb
      go_enter Try.func20, Try.ntmps20
      go_wp2_with fail
      rw [← HW0.out, ← HBB.out]
      go_quiet (fail)
      obtain ⟨w1, hw1⟩ : ∃ wz, wz = w0.drewN nq := ⟨_, rfl⟩
      have HB1 : Aside0 (Below w0.heap.size w0 w1) := ⟨by rw [hw1]; exact HKD.out _ _ HBz.out⟩
      rw [← hw1]
      clear hw1 c0 c1 c2 c3 c4 f0 f1 f2 f3 f4 d0 d1 d2 d3
      obtain ⟨⟨c0, c1, c2, c3, c4⟩, f0, f1, f2, f3, f4⟩ := five_cells (HK9.out _ HB1.out).1
      obtain ⟨d0, d1, d2, d3⟩ := four_at (HK9.out _ HB1.out).2
      go_wp2_with fail
      go_quiet (fail)
      obtain ⟨w2, hw2⟩ : ∃ wz, wz = w1.drewN nq := ⟨_, rfl⟩
      have HB2 : Aside0 (Below w0.heap.size w0 w2) := ⟨by rw [hw2]; exact HKD.out _ _ HB1.out⟩
      rw [← hw2]
      clear hw2 c0 c1 c2 c3 c4 f0 f1 f2 f3 f4 d0 d1 d2 d3
      go_wp2_with fail
      go_loopw [6, 7] (fun v6 v7 wr => ∃ i : Nat, i ≤ n ∧ v7 = .int .i64 i ∧ Aside0 (Below w0.heap.size w0 wr) ∧ Aside0 (OwnAt wr w0.heap.size 69 2 v6 (i - J) ((vs.take (2 * i)).drop (2 * J)))) (fun _ v _ => n - (intOf v).toNat)
      case atStart => exact ⟨0, by omega, rfl, HB2, ⟨by rw [Nat.zero_sub, Nat.mul_zero, List.take_zero, List.drop_nil]; exact OwnAt.nil _ _ _ _⟩⟩
      case round =>
        obtain ⟨i, hi, rfl, HB, HO⟩ := hrel
        obtain ⟨A6, c6, rfl, _⟩ := own_form HO.out
        obtain ⟨⟨c0, c1, c2, c3, c4⟩, f0, f1, f2, f3, f4⟩ := five_cells (HK9.out _ HB.out).1
        obtain ⟨d0, d1, d2, d3⟩ := four_at (HK9.out _ HB.out).2
        by_cases hlt : i < n
        · have hlt' : (i : Int) < (n : Int) := by omega
          obtain ⟨ad, d', B', m', c', ev, k0, k1, htk, hm9, _⟩ := item_get HA.out.2.1 HA.out.2.2.2.1 (k := i) (by rw [← HN.out]; exact hlt)
          injection ev with ev _ _
          subst ev
          have HTK := Aside0.mk htk
          have HKC : Aside0 (∀ W, Below w0.heap.size w0 W → W.cell? (ad.add (i * 2)) = some (.int .i64 ((s.first : Int) + i)) ∧ W.cell? ⟨(ad.add (i * 2)).block, (ad.add (i * 2)).off + 1, none⟩ = some (.slice B' m' c')) := ⟨fun W hW => ⟨(hW.cell (World.block_lt_of_cell? _ _ k0)).trans k0, (hW.cell (World.block_lt_of_cell? _ _ k1)).trans k1⟩⟩
          obtain ⟨q, hq⟩ : ∃ q : Int, q = (s.first : Int) + i := ⟨_, rfl⟩
          have HQ := Aside0.mk hq
          rw [← hq] at HKC HTK
          clear k0 k1 htk hq hm9
          obtain ⟨k0, k1⟩ := HKC.out _ HB.out
          by_cases hge : f.k ≤ q
          · have hgd : decide (f.k ≤ q) = true := decide_eq_true hge
            have hJi : J ≤ i := by have := HJK.out; have := HQ.out; omega
            go_wp2_with fail
            go_quiet (fail)
            obtain ⟨w3, hw3⟩ : ∃ wz, wz = wr.drewN nq := ⟨_, rfl⟩
            have HB3 : Aside0 (Below w0.heap.size w0 w3) := ⟨by rw [hw3]; exact HKD.out _ _ HB.out⟩
            have HO3 : Aside0 (OwnAt w3 w0.heap.size 69 2 (.slice A6 (i - J) c6) (i - J) ((vs.take (2 * i)).drop (2 * J))) := ⟨by rw [hw3]; exact HO.out⟩
            rw [← hw3]
            clear hw3 c0 c1 c2 c3 c4 f0 f1 f2 f3 f4 d0 d1 d2 d3 k0 k1 hge hgd
            obtain ⟨⟨c0, c1, c2, c3, c4⟩, f0, f1, f2, f3, f4⟩ := five_cells (HK9.out _ HB3.out).1
            obtain ⟨k0, k1⟩ := HKC.out _ HB3.out
            have HST : Aside0 ((vs.take (2 * (i + 1))).drop (2 * J) = (vs.take (2 * i)).drop (2 * J) ++ [.int .i64 q, .slice B' m' c'] ∧ i + 1 - J = (i - J) + 1) := ⟨by rw [HTK.out, List.drop_append_of_le_length (by rw [List.length_take]; have := HVL.out; omega)], by omega⟩
            obtain ⟨j, hj⟩ : ∃ j, j = i - J := ⟨_, rfl⟩
            have HJL : Aside0 (j ≤ 1000000000) := ⟨by omega⟩
            rw [← hj] at HO3 HST
            rw [← hj]
            have HOA : Aside0 (∀ o, OwnAt (w3.alloc o) w0.heap.size 69 2 (.slice A6 j c6) j ((vs.take (2 * i)).drop (2 * J)) ∧ w0.heap.size ≤ (w3.alloc o).heap.size ∧ Below w0.heap.size w0 (w3.alloc o)) := ⟨fun o => ⟨OwnAt.move HO3.out (fun k e => (below_alloc (Below.refl w3.heap.size w3) o).block k (HO3.out.block e).2), (below_alloc HB3.out o).size, below_alloc HB3.out o⟩⟩
            clear hj hJi
            go_wp2_with ((with_reducible refine gate_dst (N := 56) rfl ?_); at_builtin; refine app_item w0.heap.size rfl (.tmp 47) (.tmp 55) rfl (.slice A6 j c6) j w3.heap.size q B' m' c' ((vs.take (2 * i)).drop (2 * J)) rfl rfl (HOA.out _).1 (by exact heap_alloc_new w3 _) HJL.out (HOA.out _).2.1 ?_; intro A7 c7 w4 ho4 hg4; rw [← HST.out.1, ← HST.out.2] at ho4; have HO4 : Aside0 (OwnAt w4 w0.heap.size 69 2 (.slice A7 (j + 1) c7) (i + 1 - J) ((vs.take (2 * (i + 1))).drop (2 * J))) := ⟨by rw [← HST.out.2]; exact ho4⟩; have HB4 : Aside0 (Below w0.heap.size w0 w4) := ⟨(HOA.out _).2.2.grown hg4 (HOA.out _).2.1 (fun k e => (HO3.out.block e).1)⟩; clear ho4 hg4)
            go_roundw
            case rel => exact ⟨i + 1, by omega, by go_num, HB4, HO4⟩
            case measure => simp [intOf]; omega
          · have hgd : decide (f.k ≤ q) = false := decide_eq_false hge
            have hJi : i + 1 ≤ J := by have := HJK.out; have := HQ.out; omega
            have HE6 : Aside0 ((vs.take (2 * (i + 1))).drop (2 * J) = (vs.take (2 * i)).drop (2 * J) ∧ i + 1 - J = i - J) := ⟨by rw [List.drop_eq_nil_of_le (by rw [List.length_take]; omega), List.drop_eq_nil_of_le (by rw [List.length_take]; omega)], by omega⟩
            go_wp2_with fail
            go_quiet (fail)
            obtain ⟨w3, hw3⟩ : ∃ wz, wz = wr.drewN nq := ⟨_, rfl⟩
            have HB3 : Aside0 (Below w0.heap.size w0 w3) := ⟨by rw [hw3]; exact HKD.out _ _ HB.out⟩
            have HO3 : Aside0 (OwnAt w3 w0.heap.size 69 2 (.slice A6 (i - J) c6) (i + 1 - J) ((vs.take (2 * (i + 1))).drop (2 * J))) := ⟨by rw [hw3, HE6.out.1, HE6.out.2]; exact HO.out⟩
            rw [← hw3]
            clear hw3 c0 c1 c2 c3 c4 f0 f1 f2 f3 f4 d0 d1 d2 d3 k0 k1 hge hgd
            go_wp2_with fail
            exact ⟨⟨i + 1, by omega, by go_num, HB3, HO3⟩, by simp [intOf]; omega⟩
        · obtain rfl : i = n := by omega
          have hlt' : ¬ (i : Int) < (i : Int) := by omega
          have HO3 : Aside0 (OwnAt wr w0.heap.size 69 2 (.slice A6 (i - J) c6) (i - J) (vs.drop (2 * J))) := ⟨by have := HO.out; rwa [List.take_of_length_le (by have := HVL.out; omega)] at this⟩
          obtain ⟨hea0, hka0⟩ := dacked_close (F := F) HA.out.1 HA.out.2.1 HA.out.2.2.2.1 HA.out.2.2.2.2.1 HA.out.2.2.2.2.2 HKL.out HB.out HJ.out HN.out HO3.out
          obtain ⟨j, hj⟩ : ∃ j, j = i - J := ⟨_, rfl⟩
          rw [← hj] at hea0 hka0 ⊢
          clear hlt HO HO3 HJK HJN HVL hj
          go_wp2_with fail
          obtain ⟨wx, hwx⟩ : ∃ wx, wx = wr.setCell ⟨p, 2, none⟩ (.slice A6 j c6) := ⟨_, rfl⟩
          have hga := grown_set wr p 2 (.slice A6 j c6)
          rw [← hwx] at hea0 hka0 hga ⊢
          have HE : Aside0 (REnd wx p (s.acked f.k) (New w F)) := ⟨hea0.mono (fun k a b => a.elim .inl (fun a => .inr (Nat.le_trans HB0.out.size a)))⟩
          have HKx : Aside0 (Kept w F wx) := ⟨(Kept.of_below F HB0.out).trans hka0 (fun _ _ h => h)⟩
          have HFx : Aside0 (wx.heap[b]? = some (.cells #[.int .u32 f.s, .int .i64 f.q, .int .i64 f.k, .slice B m c] 42 (0, 0))) := ⟨(hga.block b (Array.getElem?_eq_some_iff.1 (HK9.out _ HB.out).2).1 (fun e' => HPB.out (by injection e' with e'; exact e'.symm))).trans (HK9.out _ HB.out).2⟩
          clear hea0 hka0 hga hwx c0 c1 c2 c3 c4 f0 f1 f2 f3 f4 d0 d1 d2 d3 h2 h3 hd hl hfl HONU HON1
          obtain ⟨t, ht⟩ : ∃ t, t = s.acked f.k := ⟨_, rfl⟩
          rw [← ht] at HE HTE HON2
          clear ht
          have HON3 : Aside0 (s.on f = if m = 0 ∨ f.q ≠ t.exp then (t, [], 0) else if t.exp = 65535 then (t, [], 91) else ({ t with exp := t.exp + 1 }, f.d, 0)) := ⟨by rw [HON2.out, HTE.out]⟩
          have htel : t.exp ≤ 65535 := by rw [HTE.out]; exact hel
          clear HON2 HTE hel
          obtain ⟨A2, dd, _, hh2⟩ := HE.out.cells
          obtain ⟨⟨c0, c1, c2, c3, c4⟩, f0, f1, f2, f3, f4⟩ := five_cells hh2
          obtain ⟨d0, d1, d2, d3⟩ := four_at HFx.out
          have HN1 : Aside0 (∀ j, REnd (wx.drewN j) p t (New w F) ∧ Kept w F (wx.drewN j) ∧ (wx.drewN j).heap[b]? = some (.cells #[.int .u32 f.s, .int .i64 f.q, .int .i64 f.k, .slice B m c] 42 (0, 0))) := ⟨fun j => ⟨HE.out.below (pw_below_drewN (Below.refl _ _) _), HKx.out.trans (Kept.of_below F (pw_below_drewN (Below.refl _ _) _)) (fun _ _ h => h), blk_keep HFx.out (pw_below_drewN (Below.refl _ _) _)⟩⟩
          clear hh2
          by_cases hm0 : m = 0
          · have HV : Aside0 (s.on f = (t, [], 0)) := ⟨by rw [HON3.out, if_pos (.inl hm0)]⟩
            have bm : ((m : Int) == 0) = true := by simp; omega
            clear hm0
            go_quiet (fail)
            have HE1 := Aside0.mk (HN1.out nq).1
            have HK1 := Aside0.mk (HN1.out nq).2.1
            go_wp2_with fail
            go_ret2
            exact retdn_nil HV.out HE1.out HK1.out
          have bm : ((m : Int) == 0) = false := by simp; omega
          by_cases hq : f.q = t.exp
          · have bq : (f.q != (t.exp : Int)) = false := by simp [hq]
            have HON4 : Aside0 (s.on f = if t.exp = 65535 then (t, [], 91) else ({ t with exp := t.exp + 1 }, f.d, 0)) := ⟨by rw [HON3.out, if_neg (by rintro (h | h); exact hm0 h; exact h hq)]⟩
            clear hq hm0
            by_cases he : t.exp = 65535
            · have HV : Aside0 (s.on f = (t, [], 91)) := ⟨by rw [HON4.out, if_pos he]⟩
              have be : ((t.exp : Int) == 65535) = true := by simp; omega
              clear he htel
              go_quiet (fail)
              have HE1 := Aside0.mk (HN1.out nq).1
              have HK1 := Aside0.mk (HN1.out nq).2.1
              go_wp2_with fail
              go_ret2
              exact retdn_nil HV.out HE1.out HK1.out
            · have HV : Aside0 (s.on f = ({ t with exp := t.exp + 1 }, f.d, 0)) := ⟨by rw [HON4.out, if_neg he]⟩
              have be : ((t.exp : Int) == 65535) = false := by simp; omega
              obtain ⟨x1, hx1⟩ : ∃ x1 : Int, x1 = (t.exp : Int) + 1 := ⟨_, rfl⟩
              have k1 : (t.exp : Int) + 1 = x1 := hx1.symm
              have k2 : IntKind.i64.wrap ((t.exp : Int) + 1) = x1 := by rw [IntWalk.i64_in _ (by omega)]; omega
              have k3 : IntKind.i64.wrap x1 = x1 := IntWalk.i64_in _ (by omega)
              have HEL : Aside0 (t.exp < 65535 ∧ x1 = (t.exp : Int) + 1) := ⟨by omega, hx1⟩
              clear he htel hx1
              go_quiet (fail)
              obtain ⟨wy, hwy⟩ : ∃ wz, wz = wx.drewN nq := ⟨_, rfl⟩
              have hN1 := HN1.out nq
              rw [← hwy] at hN1 ⊢
              have HEy := Aside0.mk hN1.1
              have HKy := Aside0.mk hN1.2.1
              have HFy := Aside0.mk hN1.2.2
              clear hwy hN1 c0 c1 c2 c3 c4 f0 f1 f2 f3 f4 d0 d1 d2 d3
              obtain ⟨A3, dd3, _, hh3⟩ := HEy.out.cells
              obtain ⟨⟨c0, c1, c2, c3, c4⟩, f0, f1, f2, f3, f4⟩ := five_cells hh3
              clear hh3
              have hgs := grown_set wy p 4 (.int .i64 x1)
              have HEz : Aside0 (REnd (wy.setCell ⟨p, 4, none⟩ (.int .i64 x1)) p { t with exp := t.exp + 1 } (New w F)) := ⟨dcame_close HEy.out HEL.out.1 HEL.out.2⟩
              have HKz : Aside0 (Kept w F (wy.setCell ⟨p, 4, none⟩ (.int .i64 x1))) := ⟨HKy.out.trans (Kept.of_grown (F := F) hgs (fun k' e' => by injection e' with e'; subst e'; exact HT.out.is.2.1)) (fun _ _ h => h)⟩
              have hfz : (wy.setCell ⟨p, 4, none⟩ (.int .i64 x1)).heap[b]? = some (.cells #[.int .u32 f.s, .int .i64 f.q, .int .i64 f.k, .slice B m c] 42 (0, 0)) := (hgs.block b (Array.getElem?_eq_some_iff.1 HFy.out).1 (fun e' => HPB.out (by injection e' with e'; exact e'.symm))).trans HFy.out
              obtain ⟨d0, d1, d2, d3⟩ := four_at hfz
              have HYz : Aside0 (Kd.C (Kd.int .u8) (wy.setCell ⟨p, 4, none⟩ (.int .i64 x1)) B f.d.length f.d) := ⟨HYK.out _ HKz.out⟩
              have HML : Aside0 (f.d.length ≤ 140737488355328) := HFL
              clear hgs hfz
              go_wp2_with fail
              rw [HM.out]
              refine (copy_calls _ B c f.d HYz.out HML.out).mono ?_
              rintro e wc ⟨u, rfl, hou, hbc⟩
              obtain ⟨Au, cu, rfl, _⟩ := hou.reads
              have HOU := Aside0.mk hou
              have HEc := Aside0.mk (HEz.out.below hbc)
              have HKc := Aside0.mk (HKz.out.trans (Kept.of_below F hbc) (fun _ _ h => h))
              have HLO : Aside0 (w.heap.size ≤ (wy.setCell ⟨p, 4, none⟩ (.int .i64 x1)).heap.size) := ⟨HKz.out.size⟩
              clear hou hbc
              go_wp2_with fail
              go_ret2
              rw [HV.out]
              exact ⟨Au, cu, rfl, HOU.out.lower HLO.out, HEc.out, HKc.out⟩
          · have bq : (f.q != (t.exp : Int)) = true := by simpa using hq
            have HV : Aside0 (s.on f = (t, [], 0)) := ⟨by rw [HON3.out, if_pos (.inr hq)]⟩
            clear hq hm0
            go_quiet (fail)
            have HE1 := Aside0.mk (HN1.out nq).1
            have HK1 := Aside0.mk (HN1.out nq).2.1
            go_wp2_with fail
            go_ret2
            exact retdn_nil HV.out HE1.out HK1.out
  · have b0 : (f.s != s.ses) = true := by simpa using h1
    have HV : Aside0 (s.on f = (s, [], 90)) := ⟨by rw [HONU.out, if_pos h1]⟩
    clear HONU h1
    go_enter Try.func20, Try.ntmps20
    go_wp2_with fail
    rw [← HW0.out, ← HBB.out]
    go_quiet (fail)
    go_wp2_with fail
    go_ret2
    exact retdn_nil HV.out (HKP.out _ (HKD.out _ _ (Below.refl _ _))).1 (HKP.out _ (HKD.out _ _ (Below.refl _ _))).2
end Go.Proofs.Ytcpkfkcemaihfaa.Oct
