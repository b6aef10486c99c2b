import Derived.Test.YtpkclecgaheplaaRTmU
import Derived.Deep.CutRange
/- TopMessages. -/
namespace Go.Proofs.YtpkclecgaheplaaR.Oct
open Go.RowKit Go.Proofs.YtpkclecgaheplaaRW.PrintWords Go.Proofs.YtpkclecgaheplaaR.M
set_option linter.unusedVariables false
set_option linter.unusedSimpArgs false
abbrev noB : Nat → Prop := fun _ => False
theorem erase_map (fl : List Bool) (k : Nat) : (fl.map Value.bool).take k ++ (fl.map Value.bool).drop (k + 1) = (fl.eraseIdx k).map Value.bool := by
  rw [List.eraseIdx_eq_take_drop_succ, List.map_append, List.map_take, List.map_drop]
set_option maxRecDepth 20000 in
set_option maxHeartbeats 8000000 in
theorem topm_calls (w : World) (l : List MgT) (ws : List WyT) (A A1 : Option Addr) (c c1 : Nat) (h : mgK.C w A l.length l) (h1 : wyK.C w A1 ws.length ws) (hg : ∀ o ∈ l, MgG o) (hy : ∀ o ∈ ws, WyG o) :
    Calls Try.prog 3 #[.slice A l.length c, .slice A1 ws.length c1] w fun e w' => e = .returned (.bool true) ∧ Below w.heap.size w w' := by
  have hll : l.length ≤ 9223372036854775807 := h.2.1
  have hlw : ws.length ≤ 9223372036854775807 := h1.2.1
  have HL : Aside0 (∀ W, Below w.heap.size w W → mgK.C W A l.length l) := ⟨fun W hW => Kd.C_below h hW⟩
  have HW : Aside0 (∀ W, Below w.heap.size w W → wyK.C W A1 ws.length ws) := ⟨fun W hW => Kd.C_below h1 hW⟩
  have HG := Aside0.mk hg
  have HY := Aside0.mk hy
  have HAL := Aside0.mk talive_calls
  clear h h1 hg hy
  obtain ⟨n, hn⟩ : ∃ n, n = l.length := ⟨_, rfl⟩
  obtain ⟨m, hm⟩ : ∃ m, m = ws.length := ⟨_, rfl⟩
  have HN := Aside0.mk hn
  have HM := Aside0.mk hm
  rw [← hn] at hll ⊢
  rw [← hm] at hlw ⊢
  clear hn hm
  by_cases hb40 : 40 < n
  · have i1 : (40 : Int) < (n : Int) := by omega
    go_enter Try.func3, Try.ntmps3
    go_wp2_with fail
    refine (HAL.out _).mono ?_
    rintro e w1 ⟨rfl, hb1⟩
    go_wp2_with fail
    go_ret
    exact ⟨by first | rfl | simp, hb1⟩
  by_cases hb200 : 200 < m
  · have i1 : ¬ (40 : Int) < (n : Int) := by omega
    have i2 : (200 : Int) < (m : Int) := by omega
    go_enter Try.func3, Try.ntmps3
    go_wp2_with fail
    refine (HAL.out _).mono ?_
    rintro e w1 ⟨rfl, hb1⟩
    go_wp2_with fail
    go_ret
    exact ⟨by first | rfl | simp, hb1⟩
  have i1 : ¬ (40 : Int) < (n : Int) := by omega
  have i2 : ¬ (200 : Int) < (m : Int) := by omega
  have H40 : Aside0 (l.length ≤ 40) := ⟨by rw [← HN.out]; omega⟩
  go_enter Try.func3, Try.ntmps3
  go_wp2_with fail
  refine (pnew_at _).mono ?_
  rintro e w1 ⟨rfl, hp1, hb1⟩
  obtain ⟨p, hp⟩ : ∃ p, p = w.heap.size := ⟨_, rfl⟩
  have HI1 : Aside0 (TmI w.heap.size noB w1 p (.slice none 0 0) [] []) := ⟨⟨fun k => k = w.heap.size, by rw [hp]; exact hp1, OwnAt.nil _ _ _ _, fun k e => by
    have e : k = w.heap.size := e
    subst e
    exact ⟨Nat.le_refl _, hp1.is.1, id⟩, fun k e => nomatch e⟩⟩
  have HB1 := Aside0.mk hb1
  rw [← hp]
  clear hp1 hb1 hp
  go_wp2_with fail
  go_loopw [6, 7] (fun v6 v7 wr => ∃ (j : Nat) (bag : Bag) (fl : List Bool), j ≤ n ∧ v7 = .int .i64 j ∧ bag.length = j ∧ Aside0 (TrI l bag fl) ∧ Aside0 (TmI w.heap.size noB wr p v6 bag fl) ∧ Aside0 (Below w.heap.size w wr)) (fun _ v _ => n - (intOf v).toNat)
  case atStart => exact ⟨0, [], [], by omega, rfl, rfl, ⟨TrI.nil l⟩, HI1, HB1⟩
  case round =>
    obtain ⟨j, bag, fl, hj, rfl, hbl, HT, HI, HB⟩ := hrel
    clear HI1 HB1
    obtain ⟨A6, c6, rfl, _, _⟩ := HI.out.is.2.form
    by_cases hlt : j < n
    · have HJ : Aside0 (j < l.length) := ⟨by rw [← HN.out]; exact hlt⟩
      obtain ⟨ad, rfl, m0, m1, m2, m3, m4, m5, m6⟩ := mg_at (HL.out _ HB.out) HJ.out mgZ
      obtain ⟨a, ha⟩ : ∃ a, a = mgOf (l.getD j mgZ) := ⟨_, rfl⟩
      rw [← ha] at m0 m1 m2 m3 m4 m5 m6
      have HO : Aside0 a.ok := ⟨by rw [ha]; exact MgG.ok (HG.out _ (by rw [List.getD_eq_getElem?_getD, List.getElem?_eq_getElem HJ.out]; exact List.getElem_mem HJ.out))⟩
      by_cases hr : a.right
      · as_aux_lemma =>
        have HPK := Aside0.mk (pkt_ok H40.out HG.out HJ.out (by rw [← ha]; exact hr))
        have HRR : Aside0 ((mgOf (l.getD j mgZ)).right) := ⟨by rw [← ha]; exact hr⟩
        obtain ⟨bs, hbs⟩ : ∃ bs, bs = a.bytes := ⟨_, rfl⟩
        obtain ⟨L, hL⟩ : ∃ L, L = bs.length := ⟨_, rfl⟩
        obtain ⟨fs, hfs⟩ : ∃ fs, fs = (pkt l j).all := ⟨_, rfl⟩
        obtain ⟨K, hK⟩ : ∃ K, K = fs.length := ⟨_, rfl⟩
        have HPE : Aside0 (pkt l j = ⟨9, j, 0, bs⟩) := ⟨by rw [hbs, ha]; rfl⟩
        have HPW : Aside0 (∀ W, Calls Try.prog 6 #[mgV a] W (fun e w' => ∃ A c, e = .returned (.tuple #[.slice A L c, .int .i64 0]) ∧ Kd.C (Kd.int .u8) w' A L bs ∧ Below W.heap.size W w')) := ⟨fun W => by
          have := pwrite_calls W a hr HO.out
          unfold RetPW at this
          rw [← hbs, ← hL] at this
          refine this.mono ?_
          rintro e w' ⟨A2, c2, rfl, hq, hb⟩
          have := hq.C
          rw [← hL] at this
          exact ⟨A2, c2, rfl, this, hb⟩⟩
        have HFW : Aside0 (∀ W A c, Kd.C (Kd.int .u8) W A L bs → Calls Try.prog 7 #[.agg #[.int .u32 9, .int .i64 j, .int .i64 0, .slice A L c]] W (fun e w' => ∃ A1 c1, e = .returned (.tuple #[.slice A1 K c1, .int .i64 0]) ∧ Kd.C (Kd.int .u8) w' A1 fs.length fs ∧ Below W.heap.size W w')) := ⟨fun W A c hC => by
          have := fwrite_calls W ⟨9, j, 0, bs⟩ A c (by rw [hL] at hC; exact hC) (by rw [← HPE.out]; exact HPK.out.2.1)
          rw [← HPE.out, FR.write_all HPK.out.1, ← hfs, HPE.out] at this
          dsimp only at this
          rw [← hL] at this
          refine this.mono ?_
          rintro e w' ⟨v, rfl, hq, hb⟩
          have hq : QB w' W.heap.size v fs := hq
          obtain ⟨A1, c1, rfl, _⟩ := hq.form
          exact ⟨A1, c1, by rw [hK], hq.C, hb⟩⟩
        have HFB : Aside0 (Bytes fs ∧ K ≤ 28) := ⟨by rw [hfs]; exact FR.all_bytes HPK.out.2.1, by rw [hK, hfs, FR.all_len]; have := HPK.out.2.2.2; show 14 + (mgOf (l.getD j mgZ)).bytes.length ≤ 28; omega⟩
        have HSE : Aside0 (sendB bag fs = (bag ++ [fs], 0)) := ⟨by unfold sendB; rw [if_neg (by have := HFB.out.2; omega), if_neg (by omega)]⟩
        have HKF := Aside0.mk hK
        have HFS := Aside0.mk hfs
        obtain ⟨k, u, l1, s, x, m', y⟩ := a
        dsimp only at m0 m1 m2 m3 m4 m5 m6
        clear ha hbs hL hfs hK hr HO
        go_wp2_with fail
        refine (HPW.out _).mono ?_
        rintro e w2 ⟨A2, c2, rfl, hq2, hb2⟩
        have HI2 := Aside0.mk (HI.out.below hb2)
        have HB2 := Aside0.mk (HB.out.trans (hb2.mono HB.out.size))
        have HC2 := Aside0.mk hq2
        clear hq2 hb2 m0 m1 m2 m3 m4 m5 m6
        go_wp2_with fail
        refine (HFW.out _ _ _ HC2.out).mono ?_
        rintro e w3 ⟨A3, c3, rfl, hq3, hb3⟩
        have HI3 := Aside0.mk (HI2.out.below hb3)
        have HB3 := Aside0.mk (HB2.out.trans (hb3.mono HB2.out.size))
        have HSD := Aside0.mk (HI3.out.path HB3.out.size (fun k e => e.elim) (fun F hF => psend_calls w3 p bag F A3 c3 fs hF hq3 HFB.out.1))
        rw [HSE.out, ← HKF.out] at HSD
        clear hq3 hb3
        go_wp2_with fail
        refine HSD.out.mono ?_
        rintro e w4 ⟨rfl, hi4, hb4, _⟩
        have HI4 := Aside0.mk (hi4.below (below_alloc (Below.refl w4.heap.size w4) (.cells #[.bool false] 4)))
        have HB4 := Aside0.mk (below_alloc (HB3.out.trans hb4) (.cells #[.bool false] 4))
        clear hi4 hb4 HSD HI2 HI3 HC2 HPW HFW
        go_wp2_with (first | ((with_reducible refine gate_dst (N := 201) rfl ?_); at_builtin; refine app_bool w.heap.size rfl (.tmp 63) (.tmp 64) rfl (.slice A6 fl.length c6) fl false w4.heap.size rfl rfl HI4.out.is.2 (heap_alloc_new w4 _) HB4.out.size (by have := HI4.out.is.1.1; have := HT.out.1; omega) ?_; intro v1 w5 ho1 hg1 hn1; have HR1 := Aside0.mk (HI4.out.row HB4.out.size (fun k e => e.elim) ho1 hg1 hn1); clear ho1 hg1 hn1) | (at_builtin; refine app_bool w.heap.size rfl (.tmp 63) (.tmp 64) rfl (.slice A6 fl.length c6) fl false w4.heap.size rfl rfl HI4.out.is.2 (heap_alloc_new w4 _) HB4.out.size (by have := HI4.out.is.1.1; have := HT.out.1; omega) ?_; intro v1 w5 ho1 hg1 hn1; have HR1 := Aside0.mk (HI4.out.row HB4.out.size (fun k e => e.elim) ho1 hg1 hn1); clear ho1 hg1 hn1))
        go_roundw
        case rel => exact ⟨j + 1, bag ++ [fs], fl ++ [false], by omega, by go_num, by simp [hbl], ⟨HT.out.snoc ⟨j, HJ.out, HRR.out, fun _ => HFS.out, fun e => by simp at e⟩⟩, ⟨HR1.out.1⟩, ⟨HB4.out.trans HR1.out.2.1⟩⟩
        case measure => simp [intOf]; omega
      · have HPW := Aside0.mk (fun W => pwrite_bad W a hr)
        obtain ⟨k, u, l1, s, x, m', y⟩ := a
        dsimp only at m0 m1 m2 m3 m4 m5 m6
        clear ha hr HO
        go_wp2_with fail
        refine (HPW.out _).mono ?_
        rintro e w2 ⟨rfl, hb2⟩
        have HB2 := Aside0.mk (HB.out.trans (hb2.mono HB.out.size))
        clear hb2 m0 m1 m2 m3 m4 m5 m6
        go_wp2_with fail
        refine (HAL.out _).mono ?_
        rintro e w3 ⟨rfl, hb3⟩
        have HB3 := Aside0.mk (HB2.out.trans (hb3.mono HB2.out.size))
        clear hb3
        go_wp2_with fail
        go_ret
        exact ⟨by first | rfl | simp, HB3.out⟩
    · have hjn : j = n := by omega
      have HBL : Aside0 (bag.length = n) := ⟨by omega⟩
      subst hjn
      clear hbl
      go_wp2_with fail
      go_loopw [6, 12] (fun v6 v12 wr => ∃ (r : Nat) (bag : Bag) (fl : List Bool), r ≤ m ∧ v12 = .int .i64 r ∧ Aside0 (TrI l bag fl) ∧ Aside0 (TmI w.heap.size noB wr p v6 bag fl) ∧ Aside0 (Below w.heap.size w wr)) (fun _ v _ => m - (intOf v).toNat)
      case atStart => exact ⟨0, bag, fl, by omega, rfl, HT, HI, HB⟩
      case round =>
        clear HT HI HB HBL
        obtain ⟨r, bag2, fl2, hr, rfl, HT, HI, HB⟩ := hrel
        obtain ⟨A6, c6, rfl, hc6, hm6⟩ := HI.out.is.2.form
        by_cases hlt2 : r < m
        · have HR : Aside0 (r < ws.length) := ⟨by rw [← HM.out]; exact hlt2⟩
          obtain ⟨ad, rfl, y0, y1, y2, y3⟩ := wy_at (HW.out _ HB.out) HR.out ((0, 0, 0, 0) : WyT)
          have HWy : WyG (ws.getD r ((0, 0, 0, 0) : WyT)) := HY.out _ (by rw [List.getD_eq_getElem?_getD, List.getElem?_eq_getElem HR.out]; exact List.getElem_mem HR.out)
          obtain ⟨⟨kd, i, at_, by_⟩, he⟩ : ∃ x, x = ws.getD r ((0, 0, 0, 0) : WyT) := ⟨_, rfl⟩
          rw [← he] at y0 y1 y2 y3 HWy
          dsimp only at y0 y1 y2 y3
          have HBy : Aside0 (Byte by_) := ⟨by have h8 := HWy.2.2.2; dsimp only at h8; have := Go.bounds_u8 h8; unfold Byte; omega⟩
          clear he HWy
          obtain ⟨V, hV⟩ : ∃ V, V = wr.alloc (.cells #[.int .i64 kd, .int .i64 i, .int .i64 at_, .int .u8 by_] 42) := ⟨_, rfl⟩
          have HB1 : Aside0 (Below w.heap.size w V) := ⟨by rw [hV]; exact below_alloc HB.out _⟩
          have HH1 : Aside0 (V.heap[wr.heap.size]? = some (.cells #[.int .i64 kd, .int .i64 i, .int .i64 at_, .int .u8 by_] 42 (0, 0))) := ⟨by rw [hV]; exact heap_alloc_new wr _⟩
          have HI1 : Aside0 (TmI w.heap.size (fun k => k = wr.heap.size) V p (.slice A6 fl2.length c6) bag2 fl2) := ⟨by rw [hV]; exact HI.out.setx (below_alloc (Below.refl _ _) _) (fun k e => by have e : k = wr.heap.size := e; omega)⟩
          have HX1 : Aside0 (∀ k, k = wr.heap.size → k < V.heap.size) := ⟨fun k e => by rw [e]; exact (Array.getElem?_eq_some_iff.1 HH1.out).1⟩
          have HV := Aside0.mk hV
          have HFL : Aside0 (fl2.length = bag2.length) := ⟨HT.out.1⟩
          have HOK := Aside0.mk HI.out.is.1
          clear hV
          by_cases k0 : kd = 0
          · as_aux_lemma =>
            subst k0
            have HTK := Aside0.mk (HI1.out.take HB1.out.size HX1.out i)
            by_cases hin : i < 0 ∨ (bag2.length : Int) ≤ i
            · have HE : takeB bag2 i = (bag2, [], 4) := by unfold takeB; rw [there_no hin, if_neg (by decide)]
              rw [HE] at HTK
              dsimp only [List.length_nil] at HTK
              clear hin HE
              go_wp2_with fail
              rw [← HV.out]
              refine HTK.out.mono ?_
              rintro e w2 ⟨A2, d2, rfl, _, _, hi2, hb2, _⟩
              have HI2 := Aside0.mk hi2.dropx
              have HB2 := Aside0.mk (HB1.out.trans hb2)
              clear hi2 hb2 HTK y0 y1 y2 y3
              go_wp2_with fail
              go_roundw
              case rel => exact ⟨r + 1, bag2, fl2, by omega, by go_num, HT, HI2, HB2⟩
              case measure => simp [intOf]; omega
            · obtain ⟨k, rfl⟩ := Int.eq_ofNat_of_zero_le (show 0 ≤ i by omega)
              have hk : k < bag2.length := by omega
              have HE : takeB bag2 (k : Int) = (bag2.eraseIdx k, bag2.getD k [], 0) := by unfold takeB; rw [there_yes hin, if_pos rfl, Int.toNat_natCast]
              rw [HE] at HTK
              dsimp only at HTK
              have HRD := Aside0.mk (HT.out.read H40.out HG.out hk)
              have HTE := Aside0.mk (HT.out.erase hk)
              have HBY := Aside0.mk (Bag.get_ok HOK.out k)
              obtain ⟨g, off, rfl⟩ : ∃ g off, A6 = some ⟨g, off, none⟩ := by
                rcases HI.out.is.2.2 with ⟨e1, h0⟩ | ⟨g, off, cap, cur, e1, _⟩
                · have := HFL.out; omega
                · injection e1 with e1 _ _; exact ⟨g, off, e1⟩
              obtain ⟨b, hb⟩ : ∃ b, b = bag2.getD k [] := ⟨_, rfl⟩
              obtain ⟨was, hwas⟩ : ∃ was, was = fl2.getD k false := ⟨_, rfl⟩
              obtain ⟨N, hN⟩ : ∃ N, N = fl2.length := ⟨_, rfl⟩
              obtain ⟨Lb, hLb⟩ : ∃ Lb, Lb = b.length := ⟨_, rfl⟩
              rw [← hb, ← hwas] at HRD
              rw [← hb] at HTK HBY
              rw [← hLb] at HTK
              rw [← hN] at hc6 ⊢
              have HLB := Aside0.mk hLb
              have HWS := Aside0.mk hwas
              have HN2 := Aside0.mk hN
              have HKL : Aside0 (k < fl2.length ∧ fl2.length ≤ 256) := ⟨by have := HFL.out; have := HOK.out.1; omega⟩
              have hkN : k < N := by rw [hN]; exact HKL.out.1
              have hN256 : N ≤ 256 := by rw [hN]; exact HKL.out.2
              obtain ⟨k1, hk1⟩ : ∃ k1, k1 = k + 1 := ⟨_, rfl⟩
              obtain ⟨m1, hm1⟩ : ∃ m1, m1 = N - k1 := ⟨_, rfl⟩
              have i0 : (0 : Int) ≤ (k : Int) := by omega
              have i01 : ¬ (k : Int) < 0 := by omega
              have i1' : (k : Int) < (N : Int) := by omega
              have i11 : ¬ (N : Int) ≤ (k : Int) := by omega
              have i2' : (k : Int) + 1 = (k1 : Int) := by omega
              have i3 : IntKind.i64.wrap ((k : Int) + 1) = (k1 : Int) := by rw [IntWalk.i64_in _ (by omega)]; omega
              have i3' : IntKind.i64.wrap (k1 : Int) = (k1 : Int) := IntWalk.i64_in _ (by omega)
              have i4 : (k1 : Int) ≤ (N : Int) := by omega
              have i5 : (N : Int) ≤ (c6 : Int) := by omega
              have i6 : (k : Int) ≤ (c6 : Int) := by omega
              have i7 : (0 : Int) ≤ (k1 : Int) := by omega
              have HK1 := Aside0.mk (And.intro hk1 hm1)
              have HMM : Aside0 (k + m1 = (fl2.eraseIdx k).length ∧ ((fl2.map Value.bool).drop (k + 1)).length = m1 ∧ m1 + k ≤ 256) := ⟨by rw [List.length_eraseIdx, if_pos HKL.out.1, List.length_drop, List.length_map]; omega⟩
              have HONE : Aside0 (∀ u ∈ (fl2.map Value.bool).drop (k + 1), u.oneCell' = true) := ⟨fun u hu => bools_one fl2 u (List.mem_of_mem_drop hu)⟩
              obtain ⟨ib, hib, hzb, hzb1, hzb2⟩ := info_parts info_bool
              clear hb hwas hN hLb hk hin HE
              go_wp2_with fail
              rw [← HV.out]
              refine HTK.out.mono ?_
              rintro e w2 ⟨A2, d2, rfl, hq2, hne2, hi2, hb2, hx2⟩
              have HH2 : Aside0 (w2.heap[wr.heap.size]? = some (.cells #[.int .i64 0, .int .i64 k, .int .i64 at_, .int .u8 by_] 42 (0, 0))) := ⟨(hx2 _ rfl).trans HH1.out⟩
              have HX2 : Aside0 (∀ k, k = wr.heap.size → k < w2.heap.size) := ⟨fun k e => by rw [e]; exact (Array.getElem?_eq_some_iff.1 HH2.out).1⟩
              have HI2 := Aside0.mk hi2
              have HB2 := Aside0.mk (HB1.out.trans hb2)
              have HQ2 := Aside0.mk hq2
              have HNE2 := Aside0.mk hne2
              have hof := (hi2.flag rfl HKL.out.1).1
              rw [← HWS.out] at hof
              have HFR := Aside0.mk (hi2.is.2.front (k := k) (Nat.le_of_lt HKL.out.1))
              have HNW : Aside0 (∀ j u, ((fl2.map Value.bool).drop (k + 1))[j]? = some u → w2.cell? ⟨g, off + (k + 1) + j, none⟩ = some u) := ⟨fun j u hj => by
                rw [List.getElem?_drop] at hj
                have := hi2.is.2.at hj
                rw [show off + (k + 1) + j = off + (k + 1 + j) by omega]
                exact this⟩
              clear y0 y1 y2 y3 hq2 hne2 hi2 hb2 hx2 HTK
              obtain ⟨x0, x1, x2, x3, _⟩ := four_cells HH2.out
              go_wp2_with fail
              go_cut [6] from 66 to 199 (fun v6 wx => ∃ (A' : Option Addr) (n' d' : Nat) (w9 : World), v6 = .slice A' n' d' ∧ Aside0 (TmI w.heap.size (fun k => k = wr.heap.size) w9 p (.slice A' n' d') (bag2.eraseIdx k) (fl2.eraseIdx k)) ∧ Aside0 (Below w.heap.size w w9) ∧ Aside0 (QB w9 0 (.slice A2 Lb d2) b) ∧ w9 = wx)
              case first =>
               as_aux_lemma =>
                by_cases hcap : c6 = k1
                · have HM0 : Aside0 (m1 = 0) := ⟨by omega⟩
                  have hn1 : N = k1 := by omega
                  clear hk1 hm1
                  subst hcap
                  go_region_law
                    (refine step_append_at _ (by rfl) (.tmp 109) (.tmp 114) 27 (by rfl) w.heap.size 4 ib (.bool false) 1 1 Try.underlying27 hib hzb hzb1 hzb2 rfl Nat.zero_lt_one (.slice (some ⟨g, off, none⟩) k k) k ((fl2.map Value.bool).take k) (by rfl) (HFR.out.move (fun k' e' => by first | rfl | exact (below_drew (Below.refl w2.heap.size w2)).block k' (HFR.out.block e').2)) (some ⟨g, off, none⟩) m1 0 ((fl2.map Value.bool).drop (k + 1)) (by rw [HM0.out]; rfl) (by rw [HMM.out.2.1, Nat.mul_one]) (fun h0 => by have := HM0.out; omega) HONE.out (by have := HMM.out.2.2; simp only [maxLen]; omega) (by have := HMM.out.2.2; omega) HB2.out.size ?_; intro v1 w3 ho1 hg1 hn1; obtain ⟨A1', d1, rfl, _⟩ := ho1.form; have HO1 := Aside0.mk ho1; have HG1 : Aside0 (w2.grownBy w3 (Value.slice (some ⟨g, off, none⟩) fl2.length c6).ownBlock) := ⟨by first | exact hg1 | exact grown_below (below_drew (Below.refl _ _)) hg1⟩; have HN1 := Aside0.mk hn1; clear ho1 hg1 hn1)
                  all_goals
                    have HRW := Aside0.mk (HI2.out.row HB2.out.size HX2.out (fl' := fl2.eraseIdx k) (by rw [← HMM.out.1, ← erase_map]; exact HO1.out) HG1.out HN1.out)
                    have HQ3 := Aside0.mk (HQ2.out.move (W' := w3) (fun k' e => HG1.out.block k' (HQ2.out.block e).2 (fun e2 => HNE2.out k' e e2.symm)))
                    have HB3 := Aside0.mk (HB2.out.trans HRW.out.2.1)
                    go_wp2_with fail
                    go_meet
                    exact ⟨_, _, _, _, rfl, ⟨HRW.out.1⟩, HB3, HQ3, rfl⟩
                · have hcap2 : ¬ k1 = c6 := fun e => hcap e.symm
                  clear hk1 hm1
                  go_region_law
                    (refine step_append_at _ (by rfl) (.tmp 109) (.tmp 114) 27 (by rfl) w.heap.size 4 ib (.bool false) 1 1 Try.underlying27 hib hzb hzb1 hzb2 rfl Nat.zero_lt_one (.slice (some ⟨g, off, none⟩) k k) k ((fl2.map Value.bool).take k) (by rfl) (HFR.out.move (fun k' e' => by first | rfl | exact (below_drew (Below.refl w2.heap.size w2)).block k' (HFR.out.block e').2)) (some ⟨g, off + k1, none⟩) m1 (c6 - k1) ((fl2.map Value.bool).drop (k + 1)) (by rw [HK1.out.2]; rfl) (by rw [HMM.out.2.1, Nat.mul_one]) (fun _ => ⟨_, rfl, fun j u hj => by rw [Addr.add_lit, HK1.out.1]; first | exact HNW.out j u hj | exact ((below_drew (Below.refl w2.heap.size w2)).cell (World.block_lt_of_cell? _ _ (HNW.out j u hj))).trans (HNW.out j u hj)⟩) HONE.out (by have := HMM.out.2.2; simp only [maxLen]; omega) (by have := HMM.out.2.2; omega) HB2.out.size ?_; intro v1 w3 ho1 hg1 hn1; obtain ⟨A1', d1, rfl, _⟩ := ho1.form; have HO1 := Aside0.mk ho1; have HG1 : Aside0 (w2.grownBy w3 (Value.slice (some ⟨g, off, none⟩) fl2.length c6).ownBlock) := ⟨by first | exact hg1 | exact grown_below (below_drew (Below.refl _ _)) hg1⟩; have HN1 := Aside0.mk hn1; clear ho1 hg1 hn1)
                  all_goals
                    have HRW := Aside0.mk (HI2.out.row HB2.out.size HX2.out (fl' := fl2.eraseIdx k) (by rw [← HMM.out.1, ← erase_map]; exact HO1.out) HG1.out HN1.out)
                    have HQ3 := Aside0.mk (HQ2.out.move (W' := w3) (fun k' e => HG1.out.block k' (HQ2.out.block e).2 (fun e2 => HNE2.out k' e e2.symm)))
                    have HB3 := Aside0.mk (HB2.out.trans HRW.out.2.1)
                    go_wp2_with fail
                    go_meet
                    exact ⟨_, _, _, _, rfl, ⟨HRW.out.1⟩, HB3, HQ3, rfl⟩
              case rest =>
               as_aux_lemma =>
                obtain ⟨A', n', d', w9, rfl, HI3, HB3, HQ3, rfl⟩ := hcut
                have HRDC := Aside0.mk (fread_calls w9 A2 d2 b HQ3.out.C HBY.out.2 (by obtain ⟨_, _, e, h1, _⟩ := OwnAt.form HQ3.out; injection e with _ _ e3; rw [e3]; exact h1))
                rw [← HLB.out] at HRDC
                clear x0 x1 x2 x3 hof i0 i1' i11 i2' i3 i3' i4 i5 i6 i7 i01
                cases was with
                | false =>
                  obtain ⟨i', hi', hr', hrd⟩ := HRD.out.1 rfl
                  have HPK := Aside0.mk (pkt_ok H40.out HG.out hi' hr')
                  obtain ⟨bb, hbb⟩ : ∃ bb, bb = (mgOf (l.getD i' mgZ)).bytes := ⟨_, rfl⟩
                  obtain ⟨LL, hLL⟩ : ∃ LL, LL = bb.length := ⟨_, rfl⟩
                  have HPE : Aside0 (readF b = (⟨9, i', 0, bb⟩, 0)) := ⟨by rw [hrd, hbb]; rfl⟩
                  rw [HPE.out] at HRDC
                  unfold RetFR at HRDC
                  dsimp only at HRDC
                  rw [← hLL] at HRDC
                  have HLL := Aside0.mk hLL
                  have HCM : Aside0 (∀ W B d, Below w.heap.size w W → Kd.C (Kd.int .u8) W B LL bb → LL ≤ d → d ≤ 9223372036854775807 → Calls Try.prog 11 #[.agg #[.int .u32 9, .int .i64 i', .int .i64 0, .slice B LL d], .slice A j c] W (fun e w' => e = .returned (.bool true) ∧ Below W.heap.size W w')) := ⟨fun W B d hW hC h1 h2 => by
                    rw [hLL] at hC h1
                    rw [hbb] at hC h1
                    have := comes_calls W l A c i' B d (HL.out W hW) hi' mgZ hr' HPK.out.2.2.1 hC h1 h2
                    rw [← hbb, ← hLL, ← HN.out] at this
                    exact this⟩
                  clear hrd hbb hLL hr' hi' HPE
                  go_wp2_with fail
                  refine HRDC.out.mono ?_
                  rintro e w4 ⟨A4, c4, rfl, ho4, hb4⟩
                  obtain ⟨V2, hV2⟩ : ∃ V2, V2 = w4.alloc (.cells #[.int .u32 9, .int .i64 i', .int .i64 0, .slice A4 LL c4] 39) := ⟨_, rfl⟩
                  have HB34 : Aside0 (Below w9.heap.size w9 V2) := ⟨by rw [hV2]; exact below_alloc hb4 _⟩
                  have HC4 : Aside0 (Kd.C (Kd.int .u8) V2 A4 LL bb ∧ LL ≤ c4 ∧ c4 ≤ 9223372036854775807) := ⟨by
                    have hq := QB.of_OB ho4
                    obtain ⟨_, _, e, h1, h2⟩ := OwnAt.form hq
                    injection e with _ _ e3
                    have hC := hq.C
                    rw [← HLL.out] at hC h1
                    rw [hV2]
                    exact ⟨Kd.C_below hC (below_alloc (Below.refl w4.heap.size w4) _), by rw [e3]; exact h1, by rw [e3]; simpa [maxLen] using h2⟩⟩
                  have HI4 := Aside0.mk (HI3.out.below HB34.out).dropx
                  have HB4 := Aside0.mk (HB3.out.trans (HB34.out.mono HB3.out.size))
                  have HV2 := Aside0.mk hV2
                  clear hV2 ho4 hb4 HRDC
                  go_wp2_with fail
                  rw [← HV2.out]
                  refine (HCM.out _ _ _ HB4.out HC4.out.1 HC4.out.2.1 HC4.out.2.2).mono ?_
                  rintro e w5 ⟨rfl, hb5⟩
                  have HI5 := Aside0.mk (HI4.out.below hb5)
                  have HB5 := Aside0.mk (HB4.out.trans (hb5.mono HB4.out.size))
                  clear hb5
                  go_wp2_with fail
                  go_roundw
                  case rel => exact ⟨r + 1, bag2.eraseIdx k, fl2.eraseIdx k, by omega, by go_num, HTE, HI5, HB5⟩
                  case measure => simp [intOf]; omega
                | true =>
                  have hne := HRD.out.2 rfl
                  obtain ⟨x, hx⟩ : ∃ x, x = readF b := ⟨_, rfl⟩
                  rw [← hx] at HRDC hne
                  obtain ⟨⟨s', q', kk, dd⟩, ne⟩ := x
                  dsimp only at hne
                  unfold RetFR at HRDC
                  dsimp only at HRDC
                  clear hx
                  go_wp2_with fail
                  refine HRDC.out.mono ?_
                  rintro e w4 ⟨A4, c4, rfl, _, hb4⟩
                  have HB34 : Aside0 (Below w9.heap.size w9 (w4.alloc (.cells #[.int .u32 s', .int .i64 q', .int .i64 kk, .slice A4 dd.length c4] 39))) := ⟨below_alloc hb4 _⟩
                  have HI4 := Aside0.mk (HI3.out.below HB34.out).dropx
                  have HB4 := Aside0.mk (HB3.out.trans (HB34.out.mono HB3.out.size))
                  clear hb4 HRDC
                  go_wp2_with fail
                  go_roundw
                  case rel => exact ⟨r + 1, bag2.eraseIdx k, fl2.eraseIdx k, by omega, by go_num, HTE, HI4, HB4⟩
                  case measure => simp [intOf]; omega
          · by_cases k1 : kd = 1
            · as_aux_lemma =>
              subst k1
              have HTK := Aside0.mk (HI1.out.path HB1.out.size HX1.out (fun F hF => pdbl_calls V p bag2 F i hF))
              by_cases hin : i < 0 ∨ (bag2.length : Int) ≤ i
              · have HE : dblB bag2 i = (bag2, 4) := by unfold dblB; rw [there_no hin, if_neg (by decide)]
                rw [HE] at HTK
                dsimp only at HTK
                clear hin HE
                go_wp2_with fail
                rw [← HV.out]
                refine HTK.out.mono ?_
                rintro e w2 ⟨rfl, hi2, hb2, _⟩
                have HI2 := Aside0.mk hi2.dropx
                have HB2 := Aside0.mk (HB1.out.trans hb2)
                clear hi2 hb2 HTK y0 y1 y2 y3
                go_wp2_with fail
                go_roundw
                case rel => exact ⟨r + 1, bag2, fl2, by omega, by go_num, HT, HI2, HB2⟩
                case measure => simp [intOf]; omega
              · obtain ⟨k, rfl⟩ := Int.eq_ofNat_of_zero_le (show 0 ≤ i by omega)
                have hk : k < bag2.length := by omega
                have HBY := Aside0.mk (Bag.get_ok HOK.out k)
                obtain ⟨g, off, rfl⟩ : ∃ g off, A6 = some ⟨g, off, none⟩ := by
                  rcases HI.out.is.2.2 with ⟨e1, h0⟩ | ⟨g, off, cap, cur, e1, _⟩
                  · have := HFL.out; omega
                  · injection e1 with e1 _ _; exact ⟨g, off, e1⟩
                have HKL : Aside0 (k < fl2.length ∧ fl2.length ≤ 256) := ⟨by have := HFL.out; have := HOK.out.1; omega⟩
                have i0 : (0 : Int) ≤ (k : Int) := by omega
                have i01 : ¬ (k : Int) < 0 := by omega
                have i1' : (k : Int) < (fl2.length : Int) := by have := HKL.out.1; omega
                have i11 : ¬ (fl2.length : Int) ≤ (k : Int) := by omega
                have HE : dblB bag2 (k : Int) = sendB bag2 (bag2.getD k []) := by unfold dblB; rw [there_yes hin, if_pos rfl, Int.toNat_natCast]
                rw [HE] at HTK
                by_cases hfull : 256 ≤ bag2.length
                · have HE2 : sendB bag2 (bag2.getD k []) = (bag2, 5) := by unfold sendB; rw [if_neg (by have := HBY.out.1; omega), if_pos hfull]
                  rw [HE2] at HTK
                  dsimp only at HTK
                  clear hin HE HE2
                  go_wp2_with fail
                  rw [← HV.out]
                  refine HTK.out.mono ?_
                  rintro e w2 ⟨rfl, hi2, hb2, _⟩
                  have HI2 := Aside0.mk hi2.dropx
                  have HB2 := Aside0.mk (HB1.out.trans hb2)
                  clear hi2 hb2 HTK y0 y1 y2 y3
                  go_wp2_with fail
                  go_roundw
                  case rel => exact ⟨r + 1, bag2, fl2, by omega, by go_num, HT, HI2, HB2⟩
                  case measure => simp [intOf]; omega
                · have HE2 : sendB bag2 (bag2.getD k []) = (bag2 ++ [bag2.getD k []], 0) := by unfold sendB; rw [if_neg (by have := HBY.out.1; omega), if_neg hfull]
                  rw [HE2] at HTK
                  dsimp only at HTK
                  have HSN := Aside0.mk (HT.out.snoc (HT.out.2 k hk))
                  obtain ⟨was, hwas⟩ : ∃ was, was = fl2.getD k false := ⟨_, rfl⟩
                  rw [← hwas] at HSN
                  have HWS := Aside0.mk hwas
                  clear hin HE HE2 hwas
                  go_wp2_with fail
                  rw [← HV.out]
                  refine HTK.out.mono ?_
                  rintro e w2 ⟨rfl, hi2, hb2, hx2⟩
                  have HH2 : Aside0 (w2.heap[wr.heap.size]? = some (.cells #[.int .i64 1, .int .i64 k, .int .i64 at_, .int .u8 by_] 42 (0, 0))) := ⟨(hx2 _ rfl).trans HH1.out⟩
                  have hof := (hi2.flag rfl HKL.out.1).1
                  rw [← HWS.out] at hof
                  have HI3 := Aside0.mk (hi2.dropx.below (below_alloc (Below.refl w2.heap.size w2) (.cells #[.bool was] 4)))
                  have HB3 := Aside0.mk (below_alloc (HB1.out.trans hb2) (.cells #[.bool was] 4))
                  clear hi2 hb2 hx2 HTK y0 y1 y2 y3
                  obtain ⟨x0, x1, x2, x3, _⟩ := four_cells HH2.out
                  go_wp2_with (first | ((with_reducible refine gate_dst (N := 201) rfl ?_); at_builtin; refine app_bool w.heap.size rfl (.tmp 152) (.tmp 158) rfl (.slice (some ⟨g, off, none⟩) fl2.length c6) fl2 was w2.heap.size rfl rfl HI3.out.is.2 (heap_alloc_new w2 _) HB3.out.size (by have := HKL.out; omega) ?_; intro v1 w5 ho1 hg1 hn1; have HR1 := Aside0.mk (HI3.out.row HB3.out.size (fun k e => e.elim) ho1 hg1 hn1); clear ho1 hg1 hn1) | (at_builtin; refine app_bool w.heap.size rfl (.tmp 152) (.tmp 158) rfl (.slice (some ⟨g, off, none⟩) fl2.length c6) fl2 was w2.heap.size rfl rfl HI3.out.is.2 (heap_alloc_new w2 _) HB3.out.size (by have := HKL.out; omega) ?_; intro v1 w5 ho1 hg1 hn1; have HR1 := Aside0.mk (HI3.out.row HB3.out.size (fun k e => e.elim) ho1 hg1 hn1); clear ho1 hg1 hn1))
                  go_roundw
                  case rel => exact ⟨r + 1, bag2 ++ [bag2.getD k []], fl2 ++ [was], by omega, by go_num, HSN, ⟨HR1.out.1⟩, ⟨HB3.out.trans HR1.out.2.1⟩⟩
                  case measure => simp [intOf]; omega
            by_cases k2 : kd = 2
            · as_aux_lemma =>
              subst k2
              by_cases hy0 : by_ = 0
              · subst hy0
                have HI2 : Aside0 (TmI w.heap.size noB V p (.slice A6 fl2.length c6) bag2 fl2) := ⟨HI1.out.dropx⟩
                rw [HV.out] at HI2 HB1
                go_wp2_with fail
                go_roundw
                case rel => exact ⟨r + 1, bag2, fl2, by omega, by go_num, HT, HI2, HB1⟩
                case measure => simp [intOf]; omega
              by_cases hi0 : i < 0
              · have i1' : ¬ (0 : Int) ≤ i := by omega
                have HI2 : Aside0 (TmI w.heap.size noB V p (.slice A6 fl2.length c6) bag2 fl2) := ⟨HI1.out.dropx⟩
                rw [HV.out] at HI2 HB1
                go_wp2_with fail
                go_roundw
                case rel => exact ⟨r + 1, bag2, fl2, by omega, by go_num, HT, HI2, HB1⟩
                case measure => simp [intOf]; omega
              by_cases hi1 : (fl2.length : Int) ≤ i
              · have i1' : (0 : Int) ≤ i := by omega
                have i2' : ¬ i < (fl2.length : Int) := by omega
                have HI2 : Aside0 (TmI w.heap.size noB V p (.slice A6 fl2.length c6) bag2 fl2) := ⟨HI1.out.dropx⟩
                rw [HV.out] at HI2 HB1
                go_wp2_with fail
                go_roundw
                case rel => exact ⟨r + 1, bag2, fl2, by omega, by go_num, HT, HI2, HB1⟩
                case measure => simp [intOf]; omega
              obtain ⟨k, rfl⟩ := Int.eq_ofNat_of_zero_le (show 0 ≤ i by omega)
              have hin : ¬ ((k : Int) < 0 ∨ (bag2.length : Int) ≤ (k : Int)) := by have := HFL.out; omega
              have hk : k < bag2.length := by omega
              have HBY := Aside0.mk (Bag.get_ok HOK.out k)
              obtain ⟨g, off, rfl⟩ : ∃ g off, A6 = some ⟨g, off, none⟩ := by
                rcases HI.out.is.2.2 with ⟨e1, h0⟩ | ⟨g, off, cap, cur, e1, _⟩
                · have := HFL.out; omega
                · injection e1 with e1 _ _; exact ⟨g, off, e1⟩
              have HKL : Aside0 (k < fl2.length ∧ fl2.length ≤ 256) := ⟨by have := HFL.out; have := HOK.out.1; omega⟩
              have i0 : (0 : Int) ≤ (k : Int) := by omega
              have i01 : ¬ (k : Int) < 0 := by omega
              have i1' : (k : Int) < (fl2.length : Int) := by have := HKL.out.1; omega
              have i11 : ¬ (fl2.length : Int) ≤ (k : Int) := by omega
              have hof := (HI1.out.flag rfl HKL.out.1).1
              rw [HV.out] at hof
              obtain ⟨was, hwas⟩ : ∃ was, was = fl2.getD k false := ⟨_, rfl⟩
              rw [← hwas] at hof
              cases was with
              | true =>
                clear hwas
                have HI2 : Aside0 (TmI w.heap.size noB V p (.slice (some ⟨g, off, none⟩) fl2.length c6) bag2 fl2) := ⟨HI1.out.dropx⟩
                rw [HV.out] at HI2 HB1
                go_wp2_with fail
                go_roundw
                case rel => exact ⟨r + 1, bag2, fl2, by omega, by go_num, HT, HI2, HB1⟩
                case measure => simp [intOf]; omega
              | false =>
                have HTK := Aside0.mk (HI1.out.path HB1.out.size HX1.out (fun F hF => (pturn_calls V p bag2 F k at_ by_ hF HBy.out).mono (fun e W' h => h.1)))
                obtain ⟨b, hb⟩ : ∃ b, b = bag2.getD k [] := ⟨_, rfl⟩
                by_cases hat : at_ < 0 ∨ (b.length : Int) ≤ at_
                · have HE : turnB bag2 (k : Int) at_ by_ = (bag2, 1) := by unfold turnB; rw [there_yes hin, if_pos rfl, Int.toNat_natCast, ← hb, if_pos hat]
                  rw [HE] at HTK
                  dsimp only at HTK
                  clear hin HE hat hb hwas
                  go_wp2_with fail
                  rw [← HV.out]
                  refine HTK.out.mono ?_
                  rintro e w2 ⟨rfl, hi2, hb2, _⟩
                  have HI2 := Aside0.mk hi2.dropx
                  have HB2 := Aside0.mk (HB1.out.trans hb2)
                  clear hi2 hb2 HTK y0 y1 y2 y3
                  go_wp2_with fail
                  go_roundw
                  case rel => exact ⟨r + 1, bag2, fl2, by omega, by go_num, HT, HI2, HB2⟩
                  case measure => simp [intOf]; omega
                · obtain ⟨n1, rfl⟩ := Int.eq_ofNat_of_zero_le (show 0 ≤ at_ by omega)
                  have HE : turnB bag2 (k : Int) (n1 : Int) by_ = (bag2.set k (turnL (bag2.getD k []) n1 by_), 0) := by unfold turnB; rw [there_yes hin, if_pos rfl, Int.toNat_natCast, ← hb, if_neg hat, Int.toNat_natCast]
                  rw [HE] at HTK
                  dsimp only at HTK
                  have HTT := Aside0.mk (HT.out.turn H40.out HG.out (n := n1) hk hwas.symm (by rw [← hb]; omega) HBy.out hy0)
                  clear hin HE hat hb hwas
                  go_wp2_with fail
                  rw [← HV.out]
                  refine HTK.out.mono ?_
                  rintro e w2 ⟨rfl, hi2, hb2, hx2⟩
                  have HH2 : Aside0 (w2.heap[wr.heap.size]? = some (.cells #[.int .i64 2, .int .i64 k, .int .i64 n1, .int .u8 by_] 42 (0, 0))) := ⟨(hx2 _ rfl).trans HH1.out⟩
                  have HF2 := Aside0.mk (hi2.flag rfl HKL.out.1)
                  have HB2 := Aside0.mk (HB1.out.trans hb2)
                  clear hi2 hb2 hx2 HTK y0 y1 y2 y3 hof
                  obtain ⟨x0, x1, x2, x3, _⟩ := four_cells HH2.out
                  have hof := HF2.out.1
                  have hfz := HF2.out.2.1
                  have HI3 := Aside0.mk HF2.out.2.2.1.dropx
                  have HB3 : Aside0 (Below w.heap.size w (w2.setCell ⟨g, off + k, none⟩ (.bool true))) := ⟨HB2.out.trans ((Below.refl w.heap.size w2).grown (grown_set w2 g (off + k) (.bool true)) HB2.out.size (fun k' e => by injection e with e; rw [← e]; exact HF2.out.2.2.2.1))⟩
                  go_wp2_with fail
                  go_roundw
                  case rel => exact ⟨r + 1, bag2.set k (turnL (bag2.getD k []) n1 by_), fl2.set k true, by omega, by go_num, HTT, HI3, HB3⟩
                  case measure => simp [intOf]; omega
            have HI2 : Aside0 (TmI w.heap.size noB V p (.slice A6 fl2.length c6) bag2 fl2) := ⟨HI1.out.dropx⟩
            rw [HV.out] at HI2 HB1
            go_wp2_with fail
            go_roundw
            case rel => exact ⟨r + 1, bag2, fl2, by omega, by go_num, HT, HI2, HB1⟩
            case measure => simp [intOf]; omega
        · have hrm : r = m := by omega
          subst hrm
          go_wp2_with fail
          refine (HAL.out _).mono ?_
          rintro e w2 ⟨rfl, hb2⟩
          have HB2 := Aside0.mk (HB.out.trans (hb2.mono HB.out.size))
          clear hb2
          go_wp2_with fail
          go_ret
          exact ⟨by first | rfl | simp, HB2.out⟩
end Go.Proofs.YtpkclecgaheplaaR.Oct
