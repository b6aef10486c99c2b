import Derived.Test.YtilogpjbdemceaaPathG
namespace Go.Proofs.Ytilogpjbdemceaa.Oct
open Go.RowKit Go.Proofs.YtilogpjbdemceaaW.PrintWords Go.Proofs.Ytilogpjbdemceaa.M
set_option linter.unusedVariables false
set_option linter.unusedSimpArgs false
theorem five_cells {W : World} {b : Nat} {x y z u v : Value} {t : TypeId} (h : W.heap[b]? = some (.cells #[x, y, z, u, v] t (0, 0))) :
    W.cell? ⟨b, 0, none⟩ = some x ∧ W.cell? ⟨b, 1, none⟩ = some y ∧ W.cell? ⟨b, 2, none⟩ = some z ∧ W.cell? ⟨b, 3, none⟩ = some u ∧ W.cell? ⟨b, 4, none⟩ = some v := by
  refine ⟨?_, ?_, ?_, ?_, ?_⟩ <;> simp [World.cell?, h]
theorem sendB_cases (b : Bag) (ys : List Int) : ((sendB b ys).1.length = b.length ∧ ((sendB b ys).2 == 0) = false) ∨ ((sendB b ys).1.length = b.length + 1 ∧ ((sendB b ys).2 == 0) = true) := by
  unfold sendB
  split
  · exact .inl ⟨rfl, rfl⟩
  split
  · exact .inl ⟨rfl, rfl⟩
  · exact .inr ⟨by simp, rfl⟩
theorem dblB_cases (b : Bag) (i : Int) : ((dblB b i).1.length = b.length ∧ ((dblB b i).2 == 0) = false) ∨ ((dblB b i).1.length = b.length + 1 ∧ ((dblB b i).2 == 0) = true) := by
  unfold dblB
  split
  · exact sendB_cases _ _
  · exact .inl ⟨rfl, rfl⟩
theorem takeB_cases (b : Bag) (i : Int) : ((takeB b i).1.length = b.length ∧ ((takeB b i).2.2 == 0) = false) ∨ ((takeB b i).1.length + 1 = b.length ∧ ((takeB b i).2.2 == 0) = true) := by
  unfold takeB
  split
  · rename_i h
    have : ¬ (i < 0 ∨ (b.length : Int) ≤ i) := fun hn => by rw [there_no hn] at h; exact absurd h (by decide)
    exact .inr ⟨by rw [List.length_eraseIdx, if_pos (by omega)]; omega, rfl⟩
  · exact .inl ⟨rfl, rfl⟩
set_option maxRecDepth 20000 in
set_option maxHeartbeats 8000000 in
theorem pcounts_calls (w : World) (l : List POp) (A : Option Addr) (c : Nat) (h : popK.C w A l.length l) (ho : ∀ o ∈ l, POp.ok o) : Calls Try.prog 8 #[.slice A l.length c] w (Yes w) := by
  have HL := Aside0.mk h
  have HOK := Aside0.mk ho
  have hll : l.length ≤ 9223372036854775807 := h.2.1
  clear h ho
  go_enter Try.func8, Try.ntmps8
  go_wp2_with fail
  refine (pnew_at _).mono ?_
  rintro e w1 ⟨rfl, ht, hb⟩
  obtain ⟨p, hp⟩ : ∃ p, p = w.heap.size := ⟨_, rfl⟩
  have HT1 : Aside0 (PathAt w1 p [] (fun k => w.heap.size ≤ k)) := ⟨by rw [hp]; exact ht.mono (fun k h _ => by rw [h]; exact Nat.le_refl _)⟩
  rw [← hp]
  have HB1 := Aside0.mk hb
  clear ht hb hp
  go_wp2_with fail
  go_loopw [4, 5] (fun v4 v5 wr => ∃ (i : Nat) (s : Bag), i ≤ l.length ∧ i ≤ 300 ∧ v4 = .int .i64 s.length ∧ v5 = .int .i64 i ∧ Aside0 (Below w.heap.size w wr) ∧ Aside0 (PathAt wr p s (fun k => w.heap.size ≤ k))) (fun _ v _ => l.length - (intOf v).toNat)
  case atStart => exact ⟨0, [], by omega, by omega, rfl, rfl, HB1, HT1⟩
  case round =>
    obtain ⟨i, s, hi, hi60, rfl, rfl, HB, HT⟩ := hrel
    have hcase : (i < l.length ∧ i < 300) ∨ i = l.length ∨ (i < l.length ∧ i = 300) := by omega
    rcases hcase with ⟨hlt, h60⟩ | hend
    · obtain ⟨ad, B, c1, rfl, k0, k1, k2, k3, k4, hcap, hrd⟩ := pop_at (Kd.C_below HL.out HB.out) hlt (0, 0, 0, [], 0)
      have HM : Aside0 (l.getD i (0, 0, 0, [], 0) ∈ l) := ⟨by rw [List.getD_eq_getElem?_getD, List.getElem?_eq_getElem hlt]; exact List.getElem_mem hlt⟩
      have HOI := Aside0.mk (HOK.out _ HM.out)
      obtain ⟨o, ho⟩ : ∃ o, o = l.getD i (0, 0, 0, [], 0) := ⟨_, rfl⟩
      rw [← ho] at k0 k1 k2 k3 k4 hcap HOI hrd
      clear ho HM
      obtain ⟨kd, ii, aa, b, yy⟩ := o
      dsimp only at k0 k1 k2 k3 k4 hcap hrd
      have hbl : b.length ≤ 9223372036854775807 := hrd.2.1
      have HRD := Aside0.mk hrd
      clear hrd
      by_cases h5 : 1000 < (b.length : Int)
      · go_wp2_with fail
        refine (palive_calls _).mono ?_
        rintro e w3 ⟨rfl, hb3⟩
        have HB3 := Aside0.mk ((below_alloc HB.out _).trans (hb3.mono (below_alloc HB.out _).size))
        clear hb3
        go_wp2_with fail
        go_ret
        exact ⟨rfl, HB3.out⟩
      · have hk : kd = 0 ∨ kd = 1 ∨ kd = 2 ∨ kd = 3 ∨ kd = 4 ∨ (kd ≠ 0 ∧ kd ≠ 1 ∧ kd ≠ 2 ∧ kd ≠ 3 ∧ kd ≠ 4) := by omega
        have HTN : Aside0 (∀ W, Below wr.heap.size wr W → PathAt W p s (In w.heap.size wr.heap.size)) := ⟨fun W hW => HT.out.near.below hW⟩
        have hs0 : w.heap.size ≤ wr.heap.size := HB.out.size
        have h1000 : (b.length : Int) ≤ 1000 := by omega
        have hs256 := HT.out.is.2.2.1
        obtain ⟨n, hn⟩ : ∃ n, n = s.length := ⟨_, rfl⟩
        rw [← hn] at hs256
        rw [← hn]
        have HNN := Aside0.mk hn
        clear hn h5
        rcases hk with hk | hk | hk | hk | hk | hk
        · have b0 : (kd == 0) = true := beq_iff_eq.2 hk
          clear hk
          go_wp2_with fail
          obtain ⟨w0, hw0⟩ : ∃ w0, w0 = wr.alloc (.cells #[.int .i64 kd, .int .i64 ii, .int .i64 aa, .slice B b.length c1, .int .u8 yy] 28) := ⟨_, rfl⟩
          have hb0 : Below wr.heap.size wr w0 := by rw [hw0]; exact below_alloc (Below.refl _ _) _
          have hh0 : w0.heap[wr.heap.size]? = some (.cells #[.int .i64 kd, .int .i64 ii, .int .i64 aa, .slice B b.length c1, .int .u8 yy] 28 (0, 0)) := by rw [hw0]; exact heap_alloc_new wr _
          rw [← hw0]
          have HB0 := Aside0.mk hb0
          have HH0 := Aside0.mk hh0
          have HBW := Aside0.mk (HB.out.trans (hb0.mono hs0))
          clear hw0 hb0 hh0 k0 k1 k2 k3 k4
          refine (psend_calls _ p _ _ B c1 b (HTN.out _ HB0.out) (Kd.C_below HRD.out HB0.out) HOI.out.2.2.2.1).mono ?_
          intro e w2 hr
          obtain ⟨rfl, ht, hk, hb⟩ := pret_in HBW.out hr
          have hcs := sendB_cases s b
          rw [← HNN.out] at hcs
          obtain ⟨s2, hs2⟩ : ∃ s2, s2 = (sendB s b).1 := ⟨_, rfl⟩
          obtain ⟨L, hL⟩ : ∃ L, L = s2.length := ⟨_, rfl⟩
          have HLL := Aside0.mk hL
          rw [← hs2] at hcs ht
          rw [← hL] at hcs
          obtain ⟨er, her⟩ : ∃ er, er = (sendB s b).2 := ⟨_, rfl⟩
          rw [← her] at hcs ⊢
          have HT2 := Aside0.mk ht
          have HB2 := Aside0.mk hb
          have h256 := ht.is.2.2.1
          rw [← hL] at h256
          clear hr ht hk hb hs2 hL her
          rcases hcs with ⟨hl2, he⟩ | ⟨hl2, he⟩
          · have ht0 : ((L : Int) != (n : Int)) = false := by simp; omega
            have hn0 : ¬ 256 < (n : Int) := by omega
            have hsl : Value.int .i64 ((n : Int)) = .int .i64 (L : Int) := by congr 1; omega
            have HSL := Aside0.mk hsl
            clear hsl hl2
            go_wp2_with fail
            refine (pall_calls _ p _ _ HT2.out).mono ?_
            rintro e w3 ⟨A3, c3, rfl, hx, hb⟩
            rw [← HLL.out]
            have HT3 := Aside0.mk (HT2.out.below hb)
            have HB3 := Aside0.mk (HB2.out.trans (hb.mono HB2.out.size))
            clear hx hb
            go_wp2_with fail
            exact ⟨⟨i + 1, s2, by omega, by omega, (by rw [← HLL.out]; exact HSL.out), by go_num, HB3, HT3⟩, by simp [intOf]; omega⟩
          · have ht0 : ((L : Int) != (n : Int) + 1) = false := by simp; omega
            have hn0 : ¬ 256 < (n : Int) + 1 := by omega
            have hsl : Value.int .i64 ((n : Int) + 1) = .int .i64 (L : Int) := by congr 1; omega
            have HSL := Aside0.mk hsl
            clear hsl hl2
            go_wp2_with fail
            refine (pall_calls _ p _ _ HT2.out).mono ?_
            rintro e w3 ⟨A3, c3, rfl, hx, hb⟩
            rw [← HLL.out]
            have HT3 := Aside0.mk (HT2.out.below hb)
            have HB3 := Aside0.mk (HB2.out.trans (hb.mono HB2.out.size))
            clear hx hb
            go_wp2_with fail
            exact ⟨⟨i + 1, s2, by omega, by omega, (by rw [← HLL.out]; exact HSL.out), by go_num, HB3, HT3⟩, by simp [intOf]; omega⟩
        · have b0 : (kd == 0) = false := beq_eq_false_iff_ne.2 (by omega)
          have b1 : (kd == 1) = true := beq_iff_eq.2 hk
          clear hk
          go_wp2_with fail
          obtain ⟨w0, hw0⟩ : ∃ w0, w0 = wr.alloc (.cells #[.int .i64 kd, .int .i64 ii, .int .i64 aa, .slice B b.length c1, .int .u8 yy] 28) := ⟨_, rfl⟩
          have hb0 : Below wr.heap.size wr w0 := by rw [hw0]; exact below_alloc (Below.refl _ _) _
          have hh0 : w0.heap[wr.heap.size]? = some (.cells #[.int .i64 kd, .int .i64 ii, .int .i64 aa, .slice B b.length c1, .int .u8 yy] 28 (0, 0)) := by rw [hw0]; exact heap_alloc_new wr _
          rw [← hw0]
          have HB0 := Aside0.mk hb0
          have HH0 := Aside0.mk hh0
          have HBW := Aside0.mk (HB.out.trans (hb0.mono hs0))
          clear hw0 hb0 hh0 k0 k1 k2 k3 k4
          refine (ptake_calls _ p _ _ ii (HTN.out _ HB0.out)).mono ?_
          intro e w2 hr
          obtain ⟨A2, d2, rfl, _, ht, hk, hb⟩ := ptake_in HBW.out hr
          obtain ⟨Lo, hLo⟩ : ∃ Lo, Lo = (takeB s ii).2.1.length := ⟨_, rfl⟩
          rw [← hLo]
          clear hLo
          have hcs := takeB_cases s ii
          rw [← HNN.out] at hcs
          obtain ⟨s2, hs2⟩ : ∃ s2, s2 = (takeB s ii).1 := ⟨_, rfl⟩
          obtain ⟨L, hL⟩ : ∃ L, L = s2.length := ⟨_, rfl⟩
          have HLL := Aside0.mk hL
          rw [← hs2] at hcs ht
          rw [← hL] at hcs
          obtain ⟨er, her⟩ : ∃ er, er = (takeB s ii).2.2 := ⟨_, rfl⟩
          rw [← her] at hcs ⊢
          have HT2 := Aside0.mk ht
          have HB2 := Aside0.mk hb
          have h256 := ht.is.2.2.1
          rw [← hL] at h256
          clear hr ht hk hb hs2 hL her
          rcases hcs with ⟨hl2, he⟩ | ⟨hl2, he⟩
          · have ht0 : ((L : Int) != (n : Int)) = false := by simp; omega
            have hn0 : ¬ 256 < (n : Int) := by omega
            have hsl : Value.int .i64 ((n : Int)) = .int .i64 (L : Int) := by congr 1; omega
            have HSL := Aside0.mk hsl
            clear hsl hl2
            go_wp2_with fail
            refine (pall_calls _ p _ _ HT2.out).mono ?_
            rintro e w3 ⟨A3, c3, rfl, hx, hb⟩
            rw [← HLL.out]
            have HT3 := Aside0.mk (HT2.out.below hb)
            have HB3 := Aside0.mk (HB2.out.trans (hb.mono HB2.out.size))
            clear hx hb
            go_wp2_with fail
            exact ⟨⟨i + 1, s2, by omega, by omega, (by rw [← HLL.out]; exact HSL.out), by go_num, HB3, HT3⟩, by simp [intOf]; omega⟩
          · have ht0 : ((L : Int) != (n : Int) - 1) = false := by simp; omega
            have hn0 : ¬ 256 < (n : Int) - 1 := by omega
            have hsl : Value.int .i64 ((n : Int) - 1) = .int .i64 (L : Int) := by congr 1; omega
            have HSL := Aside0.mk hsl
            clear hsl hl2
            go_wp2_with fail
            refine (pall_calls _ p _ _ HT2.out).mono ?_
            rintro e w3 ⟨A3, c3, rfl, hx, hb⟩
            rw [← HLL.out]
            have HT3 := Aside0.mk (HT2.out.below hb)
            have HB3 := Aside0.mk (HB2.out.trans (hb.mono HB2.out.size))
            clear hx hb
            go_wp2_with fail
            exact ⟨⟨i + 1, s2, by omega, by omega, (by rw [← HLL.out]; exact HSL.out), by go_num, HB3, HT3⟩, by simp [intOf]; omega⟩
        · have b0 : (kd == 0) = false := beq_eq_false_iff_ne.2 (by omega)
          have b1 : (kd == 1) = false := beq_eq_false_iff_ne.2 (by omega)
          have b2 : (kd == 2) = true := beq_iff_eq.2 hk
          clear hk
          go_wp2_with fail
          obtain ⟨w0, hw0⟩ : ∃ w0, w0 = wr.alloc (.cells #[.int .i64 kd, .int .i64 ii, .int .i64 aa, .slice B b.length c1, .int .u8 yy] 28) := ⟨_, rfl⟩
          have hb0 : Below wr.heap.size wr w0 := by rw [hw0]; exact below_alloc (Below.refl _ _) _
          have hh0 : w0.heap[wr.heap.size]? = some (.cells #[.int .i64 kd, .int .i64 ii, .int .i64 aa, .slice B b.length c1, .int .u8 yy] 28 (0, 0)) := by rw [hw0]; exact heap_alloc_new wr _
          rw [← hw0]
          have HB0 := Aside0.mk hb0
          have HH0 := Aside0.mk hh0
          have HBW := Aside0.mk (HB.out.trans (hb0.mono hs0))
          clear hw0 hb0 hh0 k0 k1 k2 k3 k4
          refine (pdbl_calls _ p _ _ ii (HTN.out _ HB0.out)).mono ?_
          intro e w2 hr
          obtain ⟨rfl, ht, hk, hb⟩ := pret_in HBW.out hr
          have hcs := dblB_cases s ii
          rw [← HNN.out] at hcs
          obtain ⟨s2, hs2⟩ : ∃ s2, s2 = (dblB s ii).1 := ⟨_, rfl⟩
          obtain ⟨L, hL⟩ : ∃ L, L = s2.length := ⟨_, rfl⟩
          have HLL := Aside0.mk hL
          rw [← hs2] at hcs ht
          rw [← hL] at hcs
          obtain ⟨er, her⟩ : ∃ er, er = (dblB s ii).2 := ⟨_, rfl⟩
          rw [← her] at hcs ⊢
          have HT2 := Aside0.mk ht
          have HB2 := Aside0.mk hb
          have h256 := ht.is.2.2.1
          rw [← hL] at h256
          clear hr ht hk hb hs2 hL her
          rcases hcs with ⟨hl2, he⟩ | ⟨hl2, he⟩
          · have ht0 : ((L : Int) != (n : Int)) = false := by simp; omega
            have hn0 : ¬ 256 < (n : Int) := by omega
            have hsl : Value.int .i64 ((n : Int)) = .int .i64 (L : Int) := by congr 1; omega
            have HSL := Aside0.mk hsl
            clear hsl hl2
            go_wp2_with fail
            refine (pall_calls _ p _ _ HT2.out).mono ?_
            rintro e w3 ⟨A3, c3, rfl, hx, hb⟩
            rw [← HLL.out]
            have HT3 := Aside0.mk (HT2.out.below hb)
            have HB3 := Aside0.mk (HB2.out.trans (hb.mono HB2.out.size))
            clear hx hb
            go_wp2_with fail
            exact ⟨⟨i + 1, s2, by omega, by omega, (by rw [← HLL.out]; exact HSL.out), by go_num, HB3, HT3⟩, by simp [intOf]; omega⟩
          · have ht0 : ((L : Int) != (n : Int) + 1) = false := by simp; omega
            have hn0 : ¬ 256 < (n : Int) + 1 := by omega
            have hsl : Value.int .i64 ((n : Int) + 1) = .int .i64 (L : Int) := by congr 1; omega
            have HSL := Aside0.mk hsl
            clear hsl hl2
            go_wp2_with fail
            refine (pall_calls _ p _ _ HT2.out).mono ?_
            rintro e w3 ⟨A3, c3, rfl, hx, hb⟩
            rw [← HLL.out]
            have HT3 := Aside0.mk (HT2.out.below hb)
            have HB3 := Aside0.mk (HB2.out.trans (hb.mono HB2.out.size))
            clear hx hb
            go_wp2_with fail
            exact ⟨⟨i + 1, s2, by omega, by omega, (by rw [← HLL.out]; exact HSL.out), by go_num, HB3, HT3⟩, by simp [intOf]; omega⟩
        · have b0 : (kd == 0) = false := beq_eq_false_iff_ne.2 (by omega)
          have b1 : (kd == 1) = false := beq_eq_false_iff_ne.2 (by omega)
          have b2 : (kd == 2) = false := beq_eq_false_iff_ne.2 (by omega)
          have b3 : (kd == 3) = true := beq_iff_eq.2 hk
          clear hk
          go_wp2_with fail
          obtain ⟨w0, hw0⟩ : ∃ w0, w0 = wr.alloc (.cells #[.int .i64 kd, .int .i64 ii, .int .i64 aa, .slice B b.length c1, .int .u8 yy] 28) := ⟨_, rfl⟩
          have hb0 : Below wr.heap.size wr w0 := by rw [hw0]; exact below_alloc (Below.refl _ _) _
          have hh0 : w0.heap[wr.heap.size]? = some (.cells #[.int .i64 kd, .int .i64 ii, .int .i64 aa, .slice B b.length c1, .int .u8 yy] 28 (0, 0)) := by rw [hw0]; exact heap_alloc_new wr _
          rw [← hw0]
          have HB0 := Aside0.mk hb0
          have HH0 := Aside0.mk hh0
          have HBW := Aside0.mk (HB.out.trans (hb0.mono hs0))
          clear hw0 hb0 hh0 k0 k1 k2 k3 k4
          have HT0 := Aside0.mk (HTN.out _ HB0.out)
          refine (pall_calls _ p _ _ HT0.out).mono ?_
          rintro e wx ⟨Ax, cx, rfl, hx, hb⟩
          have HTx : Aside0 (PathAt wx p s (In w.heap.size wr.heap.size)) := ⟨HT0.out.below hb⟩
          have HBx := Aside0.mk (HBW.out.trans (hb.mono HBW.out.size))
          have HHx := Aside0.mk (blk_keep HH0.out hb)
          have HXx := Aside0.mk hx
          have HS0 : Aside0 (wr.heap.size < w0.heap.size) := ⟨(Array.getElem?_eq_some_iff.1 HH0.out).1⟩
          rw [← HNN.out]
          clear hx hb HT0
          -- the two turns
          have HTU : Aside0 (∀ (W : World) (t : Bag), PathAt W p t (In w.heap.size wr.heap.size) → Below w.heap.size w W → Below w0.heap.size w0 W ∨ True → Calls Try.prog 30 #[.pointer (some ⟨p, 0, none⟩), .int .i64 ii, .int .i64 aa, .int .u8 yy] W (fun e W' => e = .returned (.int .i64 (turnB t ii aa yy).2) ∧ PathAt W' p (turnB t ii aa yy).1 (In w.heap.size wr.heap.size) ∧ Below w.heap.size w W' ∧ Kept W (In w.heap.size wr.heap.size) W')) := ⟨fun W t hT hW _ => by
            refine (pturn_calls W p t _ ii aa yy hT HOI.out.2.2.2.2).mono ?_
            rintro e W' ⟨⟨rfl, ht, hk⟩, hsz⟩
            exact ⟨rfl, ht.mono (fun k h hlt => h.elim id (fun h => by have h : W.heap.size ≤ k := h; omega)), below_kept hW hk hW.size (fun k h => h.1), hk⟩⟩
          obtain ⟨d0, d1, d2, d3, d4⟩ := five_cells HHx.out
          have HCB : Aside0 (∀ W : World, W.heap[wr.heap.size]? = wx.heap[wr.heap.size]? → W.cell? ⟨wr.heap.size, 1, none⟩ = some (.int .i64 ii) ∧ W.cell? ⟨wr.heap.size, 2, none⟩ = some (.int .i64 aa) ∧ W.cell? ⟨wr.heap.size, 4, none⟩ = some (.int .u8 yy)) := ⟨fun W hW => by
            obtain ⟨_, e1, e2, _, e4⟩ := five_cells (hW.trans HHx.out)
            exact ⟨e1, e2, e4⟩⟩
          have HTW := Aside0.mk (turnB_twice HTx.out.is.2.2 ii aa yy)
          obtain ⟨t1, ht1⟩ : ∃ t1, t1 = (turnB s ii aa yy).1 := ⟨_, rfl⟩
          obtain ⟨er, her⟩ : ∃ er, er = (turnB s ii aa yy).2 := ⟨_, rfl⟩
          have HT1 := Aside0.mk (fun W h1 h2 => HTU.out W s h1 h2 (.inr trivial))
          rw [← ht1, ← her] at HTW HT1
          have HT2' := Aside0.mk (fun W h1 h2 => HTU.out W t1 h1 h2 (.inr trivial))
          rw [HTW.out] at HT2'
          clear ht1 her
          have HSX : Aside0 (wr.heap.size < wx.heap.size) := ⟨(Array.getElem?_eq_some_iff.1 HHx.out).1⟩
          go_wp2_with fail
          go_region_held_law (fun W => W.cell? ⟨wr.heap.size, 1, none⟩ = some (.int .i64 ii) ∧ W.cell? ⟨wr.heap.size, 2, none⟩ = some (.int .i64 aa) ∧ W.cell? ⟨wr.heap.size, 4, none⟩ = some (.int .u8 yy)) (first | exact HCB.out _ rfl | exact HCB.out _ (Aside0.out (by assumption)))
            (first
             | (go_at_call 30; refine (HT2'.out _ HTa.out HBa.out).mono ?_; rintro e wb ⟨rfl, htb, hbb, hkb⟩; have HTb := Aside0.mk htb; have HBb := Aside0.mk hbb; have HXb := Aside0.mk (HXa.out.kept hkb (fun k h1 h2 => by have := h2.2; have := HS0.out; omega)); have HEb : Aside0 (wb.heap[wr.heap.size]? = wx.heap[wr.heap.size]?) := ⟨(hkb.block _ HLa.out (fun h => by have := h.2; omega)).trans HEa.out⟩; clear htb hbb hkb)
             | (go_at_call 30; refine (HT1.out _ (by first | exact HTx.out | exact HTx.out.below (below_drew (Below.refl _ _))) (by first | exact HBx.out | exact below_drew HBx.out)).mono ?_; rintro e wa ⟨rfl, hta, hba, hka⟩; have HTa := Aside0.mk hta; have HBa := Aside0.mk hba; have HXa := Aside0.mk (HXx.out.kept (W' := wa) (F := In w.heap.size wr.heap.size) (by first | exact hka | exact (Kept.of_below _ (below_drew (Below.refl wx.heap.size wx))).trans hka (fun _ _ h => h)) (fun k h1 h2 => by have := h2.2; have := HS0.out; omega)); have HLa : Aside0 (wr.heap.size < wa.heap.size) := ⟨Nat.lt_of_lt_of_le HSX.out hka.size⟩; have HEa : Aside0 (wa.heap[wr.heap.size]? = wx.heap[wr.heap.size]?) := ⟨hka.block _ HSX.out (fun h => by have := h.2; omega)⟩; clear hta hba hka))
          all_goals
            have he0 : (er != er) = false := by simp
            have hnn : ((n : Int) != (n : Int)) = false := by simp
            go_wp2_with fail
            refine (pall_calls _ p _ _ HTb.out).mono ?_
            rintro e wy ⟨Ay, cy, rfl, hx, hb⟩
            rw [← HNN.out]
            have HTy := Aside0.mk (HTb.out.below hb)
            have HBy := Aside0.mk (HBb.out.trans (hb.mono HBb.out.size))
            have HX1 : Aside0 (∀ W, Below wy.heap.size wy W → Txts W w0.heap.size (.slice Ax n cx) s ∧ Txts W wb.heap.size (.slice Ay n cy) s) := ⟨fun W hW => by rw [HNN.out]; exact ⟨(HXb.out.below hb).below hW, hx.below hW⟩⟩
            clear hx hb HXb HXa HXx d0 d1 d2 d3 d4
            go_wp2_with fail
            go_loopw [13] (fun v13 wr2 => ∃ k : Nat, k ≤ n ∧ v13 = .int .i64 k ∧ Aside0 (Below wy.heap.size wy wr2)) (fun v _ => n - (intOf v).toNat)
            case atStart => exact ⟨0, by omega, rfl, ⟨Below.refl _ _⟩⟩
            case round =>
              obtain ⟨k, hk, rfl, HR⟩ := hrel
              by_cases hlt : k < n
              · have hks : k < s.length := by rw [← HNN.out]; exact hlt
                obtain ⟨g1, o1, A1, f1, e1, k1, q1⟩ := (HX1.out _ HR.out).1.get hks
                obtain ⟨g2, o2, A2, f2, e2, k2, q2⟩ := (HX1.out _ HR.out).2.get hks
                subst e1 e2
                obtain ⟨x, hx⟩ : ∃ x, x = s.getD k [] := ⟨_, rfl⟩
                rw [← hx] at k1 k2 q1 q2
                obtain ⟨m, hm⟩ : ∃ m, m = x.length := ⟨_, rfl⟩
                have HS : Aside0 (∀ W, Below wr.heap.size wr W → W.cell? ⟨g1, o1 + k, none⟩ = some (.slice A1 m f1) ∧ W.cell? ⟨g2, o2 + k, none⟩ = some (.slice A2 m f2) ∧ (convert 26 9 (.slice A1 m f1)).run Try.prog W = .ok (.string (strOfNums x)) W ∧ (convert 26 9 (.slice A2 m f2)).run Try.prog W = .ok (.string (strOfNums x)) W) := ⟨fun W hW => by
                  rw [hm]
                  exact ⟨(hW.cell (World.block_lt_of_cell? _ _ k1)).trans k1, (hW.cell (World.block_lt_of_cell? _ _ k2)).trans k2, (q1.below hW).string, (q2.below hW).string⟩⟩
                obtain ⟨S, hS⟩ : ∃ S, S = strOfNums x := ⟨_, rfl⟩
                rw [← hS] at HS
                have HBD : Aside0 (Below wy.heap.size wy wr.drew) := ⟨below_drew HR.out⟩
                clear hx hm hS q1 q2 k1 k2 hks
                go_wp2_with fail
                go_region_held_law (fun W => W.cell? ⟨g1, o1 + k, none⟩ = some (.slice A1 m f1) ∧ W.cell? ⟨g2, o2 + k, none⟩ = some (.slice A2 m f2) ∧ (convert 26 9 (.slice A1 m f1)).run Try.prog W = .ok (.string S) W ∧ (convert 26 9 (.slice A2 m f2)).run Try.prog W = .ok (.string S) W) (exact HS.out _ (below_drew (Below.refl _ _))) (fail)
                all_goals
                  go_wp2_with fail
                  exact ⟨⟨k + 1, by omega, by go_num, HBD⟩, by simp [intOf]; omega⟩
              · obtain rfl : k = n := by omega
                have HTz := Aside0.mk (HTy.out.below HR.out)
                have HBz := Aside0.mk (HBy.out.trans (HR.out.mono HBy.out.size))
                have hn0 : ¬ 256 < (k : Int) := by omega
                clear hlt
                go_wp2_with fail
                refine (pall_calls _ p _ _ HTz.out).mono ?_
                rintro e w3 ⟨A3, c3, rfl, hx, hb⟩
                rw [← HNN.out]
                have HT3 := Aside0.mk ((HTz.out.below hb).mono (G := fun k => w.heap.size ≤ k) (fun k h _ => h.1))
                have HB3 := Aside0.mk (HBz.out.trans (hb.mono HBz.out.size))
                clear hx hb
                go_wp2_with fail
                exact ⟨⟨i + 1, s, by omega, by omega, (by rw [← HNN.out]), by go_num, HB3, HT3⟩, by simp [intOf]; omega⟩
        · have b0 : (kd == 0) = false := beq_eq_false_iff_ne.2 (by omega)
          have b1 : (kd == 1) = false := beq_eq_false_iff_ne.2 (by omega)
          have b2 : (kd == 2) = false := beq_eq_false_iff_ne.2 (by omega)
          have b3 : (kd == 3) = false := beq_eq_false_iff_ne.2 (by omega)
          have b4 : (kd == 4) = true := beq_iff_eq.2 hk
          clear hk
          go_wp2_with fail
          obtain ⟨w0, hw0⟩ : ∃ w0, w0 = wr.alloc (.cells #[.int .i64 kd, .int .i64 ii, .int .i64 aa, .slice B b.length c1, .int .u8 yy] 28) := ⟨_, rfl⟩
          have hb0 : Below wr.heap.size wr w0 := by rw [hw0]; exact below_alloc (Below.refl _ _) _
          have hh0 : w0.heap[wr.heap.size]? = some (.cells #[.int .i64 kd, .int .i64 ii, .int .i64 aa, .slice B b.length c1, .int .u8 yy] 28 (0, 0)) := by rw [hw0]; exact heap_alloc_new wr _
          rw [← hw0]
          have HB0 := Aside0.mk hb0
          have HH0 := Aside0.mk hh0
          have HBW := Aside0.mk (HB.out.trans (hb0.mono hs0))
          clear hw0 hb0 hh0 k0 k1 k2 k3 k4
          refine (pclear_calls _ p _ _ (HTN.out _ HB0.out)).mono ?_
          intro e w2 hr
          obtain ⟨rfl, ht, hk, hb⟩ := pret_in HBW.out hr
          have HT2 := Aside0.mk ht
          have HB2 := Aside0.mk hb
          clear hr ht hk hb
          go_wp2_with fail
          refine (pall_calls _ p _ _ HT2.out).mono ?_
          rintro e w3 ⟨A3, c3, rfl, hx, hb⟩
          have HT3 := Aside0.mk (HT2.out.below hb)
          have HB3 := Aside0.mk (HB2.out.trans (hb.mono HB2.out.size))
          clear hx hb
          dsimp only [List.length_nil]
          go_wp2_with fail
          exact ⟨⟨i + 1, [], by omega, by omega, rfl, by go_num, HB3, HT3⟩, by simp [intOf]; omega⟩
        · obtain ⟨e0, e1, e2, e3, e4⟩ := hk
          have b0 : (kd == 0) = false := beq_eq_false_iff_ne.2 e0
          have b1 : (kd == 1) = false := beq_eq_false_iff_ne.2 e1
          have b2 : (kd == 2) = false := beq_eq_false_iff_ne.2 e2
          have b3 : (kd == 3) = false := beq_eq_false_iff_ne.2 e3
          have b4 : (kd == 4) = false := beq_eq_false_iff_ne.2 e4
          have HT2 := Aside0.mk (HT.out.below (below_alloc (Below.refl wr.heap.size wr) (.cells #[.int .i64 kd, .int .i64 ii, .int .i64 aa, .slice B b.length c1, .int .u8 yy] 28)))
          have HB2 := Aside0.mk (below_alloc HB.out (.cells #[.int .i64 kd, .int .i64 ii, .int .i64 aa, .slice B b.length c1, .int .u8 yy] 28))
          have hn0 : ¬ 256 < (n : Int) := by omega
          clear e0 e1 e2 e3 e4
          go_wp2_with fail
          refine (pall_calls _ p _ _ HT2.out).mono ?_
          rintro e w3 ⟨A3, c3, rfl, hx, hb⟩
          rw [← HNN.out]
          have HT3 := Aside0.mk (HT2.out.below hb)
          have HB3 := Aside0.mk (HB2.out.trans (hb.mono HB2.out.size))
          clear hx hb
          go_wp2_with fail
          exact ⟨⟨i + 1, s, by omega, by omega, (by rw [← HNN.out]), by go_num, HB3, HT3⟩, by simp [intOf]; omega⟩
    · rcases hend with rfl | ⟨hlt, rfl⟩
      all_goals
        go_wp2_with fail
        refine (palive_calls _).mono ?_
        rintro e w3 ⟨rfl, hb3⟩
        have HB3 := Aside0.mk (HB.out.trans (hb3.mono HB.out.size))
        clear hb3
        go_wp2_with fail
        go_ret
        exact ⟨rfl, HB3.out⟩
end Go.Proofs.Ytilogpjbdemceaa.Oct
