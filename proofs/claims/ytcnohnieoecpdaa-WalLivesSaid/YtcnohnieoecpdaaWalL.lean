import Derived.Test.YtcnohnieoecpdaaWalK
/- WalBack's walk. -/
namespace Go.Proofs.Ytcnohnieoecpdaa.Oct
open Go.RowKit Go.Proofs.YtcnohnieoecpdaaW.PrintWords Go.Proofs.Ytcnohnieoecpdaa.M
set_option linter.unusedVariables false
set_option linter.unusedSimpArgs false
set_option maxRecDepth 20000 in
set_option maxHeartbeats 8000000 in
theorem wback_calls (w : World) (l : List Rc) (A : Option Addr) (c : Nat) (n : Int) (h : recK.C w A l.length l) (hok : ∀ r ∈ l, RcOk r) (hcap : l.length ≤ c) (hn : -9223372036854775808 ≤ n ∧ n ≤ 9223372036854775807) :
    Calls Try.prog 4 #[.slice A l.length c, .int .i64 n] w (Yes w) := by
  have HL := Aside0.mk h
  have HOK := Aside0.mk hok
  have HCAP := Aside0.mk hcap
  have hll : l.length ≤ 9223372036854775807 := h.2.1
  clear h hok hcap
  have HGR := Aside0.mk (great_calls w l A c HL.out HOK.out)
  cases hg : greatB l with
  | true =>
    rw [hg] at HGR
    go_enter Try.func4, Try.ntmps4
    go_wp2_with fail
    refine HGR.out.mono ?_
    rintro e w1 ⟨rfl, hb1⟩
    have HB1 := Aside0.mk hb1
    clear hb1 HGR
    go_wp2_with fail
    refine (alive_calls _).mono ?_
    rintro e w3 ⟨rfl, hb3⟩
    have HB3 := Aside0.mk (HB1.out.trans (hb3.mono HB1.out.size))
    clear hb3
    go_wp2_with fail
    go_ret
    exact ⟨rfl, HB3.out⟩
  | false =>
    rw [hg] at HGR
    obtain ⟨hl20, hr3⟩ := great_no hg
    have HR3 := Aside0.mk hr3
    clear hr3 hg
    go_enter Try.func4, Try.ntmps4
    go_wp2_with fail
    refine HGR.out.mono ?_
    rintro e w1 ⟨rfl, hb1⟩
    have HB1 := Aside0.mk hb1
    clear hb1 HGR
    go_wp2_with fail
    go_loopw [5, 6, 7] (fun v5 v6 v7 wr => ∃ (i : Nat), i ≤ l.length ∧ v7 = .int .i64 i ∧ Aside0 (Below w.heap.size w wr) ∧ Aside0 (QB wr w.heap.size v5 (allB (l.take i))) ∧ Aside0 (OI wr w.heap.size v6 (cutsL (l.take i))) ∧ Aside0 (∀ r ∈ l.take i, r.good)) (fun _ _ v _ => l.length - (intOf v).toNat)
    case atStart => exact ⟨0, by omega, rfl, HB1, ⟨QB.nil _ _⟩, ⟨OI.nil _ _⟩, ⟨fun r hr => by simp at hr⟩⟩
    case round =>
      obtain ⟨i, hi, rfl, HB, HQ, HI, HGD⟩ := hrel
      obtain ⟨A9, c9, rfl, hle9, _, _⟩ := HQ.out.form
      have hlen9 := allB_le HGD.out
      rw [List.length_take, Nat.min_eq_left hi] at hlen9
      obtain ⟨xs, hxs⟩ : ∃ xs, xs = allB (l.take i) := ⟨_, rfl⟩
      have HXS := Aside0.mk hxs
      rw [← hxs] at HQ hle9 hlen9 ⊢
      clear hxs
      obtain ⟨A6, c6, rfl, hle6⟩ := HI.out.form
      obtain ⟨ks, hks⟩ : ∃ ks, ks = cutsL (l.take i) := ⟨_, rfl⟩
      have HKS := Aside0.mk hks
      have HKL : Aside0 (ks.length = i) := ⟨by rw [hks, cutsL_len, List.length_take, Nat.min_eq_left hi]⟩
      rw [← hks] at HI hle6 ⊢
      clear hks
      by_cases hlt : i < l.length
      · have hlt' : (i : Int) < (l.length : Int) := by omega
        obtain ⟨ad, B, c1, rfl, k0, k1, hcap, hrd⟩ := rec_at (Kd.C_below HL.out HB.out) hlt (0, [])
        have HM := Aside0.mk (rec_mem hlt (0, []))
        have HTS := Aside0.mk (take_snoc hlt (0, []))
        obtain ⟨o, ho⟩ : ∃ o, o = l.getD i (0, []) := ⟨_, rfl⟩
        rw [← ho] at k0 k1 hcap hrd HM HTS
        have HOI := Aside0.mk (HOK.out _ HM.out)
        have HWR := Aside0.mk (wwrite_calls wr o B c1 hrd HOI.out.2.1)
        clear ho hcap hrd
        by_cases hgd : o.good
        · have HV := writeR_good hgd
          rw [HV] at HWR
          have HGD1 : Aside0 (∀ r ∈ l.take (i + 1), r.good) := ⟨fun r hr => by
            rw [HTS.out] at hr
            rcases List.mem_append.1 hr with h | h
            · exact HGD.out r h
            · have : r = o := by simpa using h
              rw [this]; exact hgd⟩
          obtain ⟨zs, hzs⟩ : ∃ zs, zs = xs ++ o.all := ⟨_, rfl⟩
          have HZ := Aside0.mk hzs
          have HAL : Aside0 (allB (l.take (i + 1)) = zs) := ⟨by rw [HTS.out, allB_snoc, hzs, HXS.out]⟩
          have HCL : Aside0 (cutsL (l.take (i + 1)) = ks ++ [(zs.length : Int)]) := ⟨by rw [← HAL.out, HTS.out, cutsL_snoc, HKS.out]⟩
          have hol : o.all.length ≤ 1031 := by rw [Rc.all_len]; have := hgd.2.2; omega
          have HLK : Aside0 (ks.length ≤ 1000000) := ⟨by rw [HKL.out]; omega⟩
          clear hgd HV hzs
          go_wp2_with fail
          refine HWR.out.mono ?_
          rintro e w2 ⟨v2, rfl, hq2, hb2⟩
          dsimp only at hq2 ⊢
          obtain ⟨A2, c2, rfl, hle2, _, hr2⟩ := hq2.form
          have HR2 := Aside0.mk hr2
          have HQ2 := Aside0.mk (HQ.out.below hb2)
          have HI2 := Aside0.mk (HI.out.below hb2)
          have HB2 := Aside0.mk (HB.out.trans (hb2.mono HB.out.size))
          clear hq2 hb2 hr2 HWR k0 k1
          go_wp2_with (first
            | ((with_reducible refine gate_dst (N := 40) rfl ?_); at_builtin; refine app_q w.heap.size rfl (.tmp 38) (.tmp 39) rfl (.slice A9 xs.length c9) xs o.all A2 o.all.length c2 rfl rfl rfl HQ2.out HR2.out HB2.out.size (by omega) ?_; intro v1 w4 ho1 hg1 _; rw [← HZ.out] at ho1; obtain ⟨A1, c1, rfl, _⟩ := ho1.form; have HO4 := Aside0.mk (ho1.below (below_alloc (Below.refl _ _) (.cells #[.int .i64 (zs.length : Int)] 3))); have HI4 := Aside0.mk ((HI2.out.move (fun k hk => hg1.block k (OwnAt.block HI2.out hk).2 (own_at_apart HI2.out HQ2.out (by decide) k hk))).below (below_alloc (Below.refl _ _) (.cells #[.int .i64 (zs.length : Int)] 3))); have HB4 := Aside0.mk (below_alloc (HB2.out.grown hg1 HB2.out.size (fun k hk => (HQ2.out.block hk).1)) (.cells #[.int .i64 (zs.length : Int)] 3)); clear ho1 hg1)
            | ((with_reducible refine gate_dst (N := 45) rfl ?_); at_builtin; refine app_int w.heap.size rfl (.tmp 41) (.tmp 44) rfl (.slice A6 ks.length c6) ks (zs.length : Int) w4.heap.size rfl rfl HI4.out (heap_alloc_new w4 _) HB4.out.size HLK.out ?_; intro v5 w5 ho5 hg5; rw [← HCL.out] at ho5; have HI5 := Aside0.mk ho5; have HO5 := Aside0.mk (HO4.out.move (fun k hk => hg5.block k (HO4.out.block hk).2 (own_at_apart HO4.out HI4.out (by decide) k hk))); have HB5 := Aside0.mk (HB4.out.grown hg5 HB4.out.size (fun k hk => (OwnAt.block HI4.out hk).1)); clear ho5 hg5))
          go_roundw
          case rel => exact ⟨i + 1, by omega, by go_num, HB5, ⟨by rw [HAL.out]; exact HO5.out⟩, HI5, HGD1⟩
          case measure => simp [intOf]; omega
        · have HN := writeR_not hgd
          obtain ⟨er, her⟩ : ∃ er, er = (writeR o).2 := ⟨_, rfl⟩
          have hne : (er != 0) = true := by simpa [her] using HN.2
          clear hgd
          go_wp2_with fail
          refine HWR.out.mono ?_
          rintro e w2 ⟨v2, rfl, hq2, hb2⟩
          rw [← her]
          rw [HN.1] at hq2
          obtain ⟨A2, c2, rfl, _⟩ := hq2.form
          have HB2 := Aside0.mk (HB.out.trans (hb2.mono HB.out.size))
          clear hq2 hb2 HWR k0 k1 her HN
          go_wp2_with fail
          refine (alive_calls _).mono ?_
          rintro e w3 ⟨rfl, hb3⟩
          have HB3 := Aside0.mk (HB2.out.trans (hb3.mono HB2.out.size))
          clear hb3
          go_wp2_with fail
          go_ret
          exact ⟨rfl, HB3.out⟩
      · have hlt' : ¬ (i : Int) < (l.length : Int) := by omega
        obtain rfl : i = l.length := by omega
        have HXL : Aside0 (xs = allB l) := ⟨by rw [HXS.out, List.take_length]⟩
        have HGL : Aside0 (∀ r ∈ l, r.good) := ⟨fun r hr => HGD.out r (by rw [List.take_length]; exact hr)⟩
        have HKV : Aside0 (∀ j, j < l.length → ks.getD j 0 = ((allB (l.take (j + 1))).length : Int)) := ⟨fun j hj => by rw [HKS.out, List.take_length]; exact cutsL_get l j hj⟩
        have HBX : Aside0 (Bytes xs) := ⟨by
          rw [HXL.out]
          unfold allB
          intro b hb
          obtain ⟨r, hr, hbr⟩ := List.mem_flatMap.1 hb
          exact Rc.all_bytes (HGL.out r hr) (HOK.out r hr).2.1 b hbr⟩
        have HTB : Aside0 (∀ r ∈ l, Bytes r.2) := ⟨fun r hr => (HOK.out r hr).2.1⟩
        have HRW0 : Aside0 (readL 0 xs = endsR 0 l) := ⟨by rw [HXL.out]; exact readL_whole HGL.out⟩
        have HMP : Aside0 ((endsR 0 l).map (·.2) = l) := ⟨endsR_map _ 0⟩
        have HEL : Aside0 (endL (endsR 0 l) = (xs.length : Int)) := ⟨by rw [endL_zero, HXL.out]⟩
        have hlen2 : xs.length ≤ 30000 := by omega
        have HRD := Aside0.mk (wread_calls wr xs A9 c9 hle9 HQ.out.C HBX.out (by omega))
        have hrl := HKL.out
        clear hlt HXS HGD HKS hlen9
        rw [hrl] at hle6 ⊢
        clear hrl
        go_wp2_with fail
        refine HRD.out.mono ?_
        rintro e w2 ⟨v2, rfl, hrw, hb2⟩
        rw [HRW0.out, HMP.out] at hrw
        rw [HRW0.out, HEL.out]
        obtain ⟨A2, c2, rfl⟩ := hrw.form
        have HB2 := Aside0.mk (HB.out.trans (hb2.mono HB.out.size))
        have HQ2 := Aside0.mk (HQ.out.below hb2)
        have HI2 := Aside0.mk (HI.out.below hb2)
        have HSM := Aside0.mk (same_calls w2 l l A2 A c2 c (RW.C hrw hll) (Kd.C_below HL.out HB2.out) HTB.out HTB.out)
        rw [show sameB l l = true by simp [sameB]] at HSM
        clear hrw hb2 HRD
        go_wp2_with fail
        refine HSM.out.mono ?_
        rintro e w3 ⟨rfl, hb3⟩
        have HB3 := Aside0.mk (HB2.out.trans (hb3.mono HB2.out.size))
        have HQ3 := Aside0.mk (HQ2.out.below hb3)
        have HI3 := Aside0.mk (HI2.out.below hb3)
        have hxx : ((xs.length : Int) != (xs.length : Int)) = false := by simp
        clear hb3 HSM
        have hcase : n < 0 ∨ (0 ≤ n ∧ (xs.length : Int) < n) ∨ (0 ≤ n ∧ n ≤ (xs.length : Int)) := by omega
        rcases hcase with h | ⟨h, h'⟩ | ⟨h, h'⟩
        · go_wp2_with fail
          refine (alive_calls _).mono ?_
          rintro e w4 ⟨rfl, hb4⟩
          have HB4 := Aside0.mk (HB3.out.trans (hb4.mono HB3.out.size))
          clear hb4
          go_wp2_with fail
          go_ret
          exact ⟨rfl, HB4.out⟩
        · have h0 : ¬ n < 0 := by omega
          go_wp2_with fail
          refine (alive_calls _).mono ?_
          rintro e w4 ⟨rfl, hb4⟩
          have HB4 := Aside0.mk (HB3.out.trans (hb4.mono HB3.out.size))
          clear hb4
          go_wp2_with fail
          go_ret
          exact ⟨rfl, HB4.out⟩
        · have h0 : ¬ n < 0 := by omega
          have h1 : ¬ (xs.length : Int) < n := by omega
          obtain ⟨N, rfl⟩ := Int.eq_ofNat_of_zero_le h
          have hNX : N ≤ xs.length := by omega
          have HXN : Aside0 ((xs.take N).length = N) := ⟨by rw [List.length_take]; omega⟩
          clear h h'
          go_wp2_with fail
          go_loopw [12] (fun v12 wr2 => ∃ k : Nat, k ≤ l.length ∧ v12 = .int .i64 k ∧ w3 = wr2 ∧ (allB (l.take k)).length ≤ N) (fun v _ => l.length - (intOf v).toNat)
          case atStart => exact ⟨0, by omega, rfl, by trivial, by simp [allB]⟩
          case round =>
            obtain ⟨k, hk, rfl, rfl, hkN⟩ := hrel
            have hcase : (k < l.length ∧ (allB (l.take (k + 1))).length ≤ N) ∨ (k < l.length ∧ N < (allB (l.take (k + 1))).length) ∨ k = l.length := by omega
            rcases hcase with ⟨hkl, hle⟩ | hend
            · obtain ⟨ad, e6, hcell⟩ := HI3.out.at' (j := k) (by rw [HKL.out]; exact hkl)
              cases e6
              rw [HKV.out k hkl] at hcell
              have HE := Aside0.mk hle
              obtain ⟨E, hE⟩ : ∃ E, E = (allB (l.take (k + 1))).length := ⟨_, rfl⟩
              rw [← hE] at hcell hle
              have hkl' : (k : Int) < (l.length : Int) := by omega
              have hle' : (E : Int) ≤ (N : Int) := by omega
              clear hE hle hkl hkN
              go_wp2_with fail
              exact ⟨⟨k + 1, by omega, by go_num, by trivial, HE.out⟩, by simp [intOf]; omega⟩
            · have HCT : Aside0 (readL 0 (xs.take N) = endsR 0 (l.take k)) := ⟨by
                rw [HXL.out]
                exact readL_cut HGL.out hk hkN (fun h => hend.elim (fun h => h.2) (fun h => by omega)) (by rw [← HXL.out]; exact hNX)⟩
              have HMK : Aside0 ((endsR 0 (l.take k)).map (·.2) = l.take k) := ⟨endsR_map _ 0⟩
              have HEK : Aside0 (endL (endsR 0 (l.take k)) = ((allB (l.take k)).length : Int)) := ⟨endL_zero _⟩
              have HTK : Aside0 ((l.take k).length = k) := ⟨by rw [List.length_take]; omega⟩
              have HTBK : Aside0 (∀ r ∈ l.take k, Bytes r.2) := ⟨fun r hr => HTB.out r (List.mem_of_mem_take hr)⟩
              have HBN := Aside0.mk (HBX.out.take N)
              have HK0 : Aside0 (k = 0 → (allB (l.take k)).length = 0) := ⟨fun h => by rw [h]; simp [allB]⟩
              obtain ⟨M, hM⟩ : ∃ M, M = (allB (l.take k)).length := ⟨_, rfl⟩
              have HMV := Aside0.mk hM
              have HRC := Aside0.mk (wread_calls w3 (xs.take N) A9 c9 (by rw [HXN.out]; omega) (Kd.C_take HQ3.out.C (by omega)) HBN.out (by rw [HXN.out]; omega))
              rw [HXN.out] at HRC
              rw [← hM] at HEK HK0 hkN
              obtain ⟨i8, hi8, _, _, _⟩ := info_parts info_u8
              have hcut := cut_to (P := Try.prog) 22 5 .i64 Try.underlying22 hi8 A9 xs.length c9 (N : Int) (by omega) (by omega) hle9
              obtain ⟨i0, hi0, _, _, _⟩ := info_parts info_rec
              have hcut2 := cut_to (P := Try.prog) 30 24 .i64 Try.underlying30 hi0 A l.length c (k : Int) (by omega) (by omega) HCAP.out
              simp only [Int.toNat_natCast] at hcut hcut2
              clear hM hi0 hi8
              rcases hend with ⟨hkl, hlt⟩ | hkl
              · obtain ⟨ad, e6, hcell⟩ := HI3.out.at' (j := k) (by rw [HKL.out]; exact hkl)
                cases e6
                rw [HKV.out k hkl] at hcell
                obtain ⟨E, hE⟩ : ∃ E, E = (allB (l.take (k + 1))).length := ⟨_, rfl⟩
                rw [← hE] at hcell hlt
                have hkl' : (k : Int) < (l.length : Int) := by omega
                have hle' : ¬ (E : Int) ≤ (N : Int) := by omega
                clear hE hkl hkN
                go_wp2_with fail
                refine HRC.out.mono ?_
                rintro e w4 ⟨v4, rfl, hrw, hb4⟩
                rw [HCT.out, HMK.out] at hrw
                rw [HCT.out, HEK.out]
                obtain ⟨A4, c4, rfl⟩ := hrw.form
                have HB4 := Aside0.mk (HB3.out.trans (hb4.mono HB3.out.size))
                have HI4 := Aside0.mk (HI3.out.below hb4)
                have HRW := Aside0.mk hrw
                rw [HTK.out] at HRW ⊢
                clear hrw hb4 HRC
                go_wp2_with fail
                refine (alive_calls _).mono ?_
                rintro e w5 ⟨rfl, hb5⟩
                have HB5 := Aside0.mk (HB4.out.trans (hb5.mono HB4.out.size))
                have HI5 := Aside0.mk (HI4.out.below hb5)
                have HR4 := Aside0.mk (RW.C HRW.out (by rw [HTK.out]; omega))
                have HR5 := Aside0.mk (Kd.C_below HR4.out hb5)
                have HSM := Aside0.mk (same_calls w5 (l.take k) (l.take k) A4 A c4 c HR5.out (Kd.C_take (Kd.C_below HL.out HB5.out) (by omega)) HTBK.out HTBK.out)
                rw [HTK.out, show sameB (l.take k) (l.take k) = true by simp [sameB]] at HSM
                clear hb5
                go_wp2_with fail
                refine HSM.out.mono ?_
                rintro e w6 ⟨rfl, hb6⟩
                have HB6 := Aside0.mk (HB5.out.trans (hb6.mono HB5.out.size))
                have HI6 := Aside0.mk (HI5.out.below hb6)
                clear hb6 hcut hcut2
                rcases Nat.eq_zero_or_pos k with hk0 | hk0
                · have hM0 := HK0.out hk0
                  have b0 : ((k : Int) == 0) = true := by simp; omega
                  have b1 : ((M : Int) == 0) = true := by simp; omega
                  clear hM0 hk0
                  go_wp2_with fail
                  go_ret
                  exact ⟨rfl, HB6.out⟩
                · obtain ⟨k1, hk1⟩ : ∃ k1, k = k1 + 1 := ⟨k - 1, by omega⟩
                  have b0 : ((k : Int) == 0) = false := by simp; omega
                  have b1 : (0 : Int) < (k : Int) := by omega
                  obtain ⟨ad2, e7, hcell2⟩ := HI6.out.at' (j := k1) (by rw [HKL.out]; omega)
                  cases e7
                  rw [HKV.out k1 (by omega), ← hk1, ← HMV.out] at hcell2
                  have f1 : (k : Int) - 1 = (k1 : Int) := by omega
                  have f2 : IntKind.i64.wrap ((k : Int) - 1) = (k1 : Int) := by rw [IntWalk.i64_in _ (by omega)]; omega
                  have f3 : IntKind.i64.wrap (k1 : Int) = (k1 : Int) := IntWalk.i64_in _ (by omega)
                  have f4 : (k1 : Int) < (l.length : Int) := by omega
                  have hmm : ((M : Int) == (M : Int)) = true := beq_self_eq_true _
                  clear hk0 hk1
                  go_wp2_with fail
                  go_ret
                  exact ⟨rfl, HB6.out⟩
              · have hkl' : ¬ (k : Int) < (l.length : Int) := by omega
                clear hkN hkl
                go_wp2_with fail
                refine HRC.out.mono ?_
                rintro e w4 ⟨v4, rfl, hrw, hb4⟩
                rw [HCT.out, HMK.out] at hrw
                rw [HCT.out, HEK.out]
                obtain ⟨A4, c4, rfl⟩ := hrw.form
                have HB4 := Aside0.mk (HB3.out.trans (hb4.mono HB3.out.size))
                have HI4 := Aside0.mk (HI3.out.below hb4)
                have HRW := Aside0.mk hrw
                rw [HTK.out] at HRW ⊢
                clear hrw hb4 HRC
                go_wp2_with fail
                refine (alive_calls _).mono ?_
                rintro e w5 ⟨rfl, hb5⟩
                have HB5 := Aside0.mk (HB4.out.trans (hb5.mono HB4.out.size))
                have HI5 := Aside0.mk (HI4.out.below hb5)
                have HR4 := Aside0.mk (RW.C HRW.out (by rw [HTK.out]; omega))
                have HR5 := Aside0.mk (Kd.C_below HR4.out hb5)
                have HSM := Aside0.mk (same_calls w5 (l.take k) (l.take k) A4 A c4 c HR5.out (Kd.C_take (Kd.C_below HL.out HB5.out) (by omega)) HTBK.out HTBK.out)
                rw [HTK.out, show sameB (l.take k) (l.take k) = true by simp [sameB]] at HSM
                clear hb5
                go_wp2_with fail
                refine HSM.out.mono ?_
                rintro e w6 ⟨rfl, hb6⟩
                have HB6 := Aside0.mk (HB5.out.trans (hb6.mono HB5.out.size))
                have HI6 := Aside0.mk (HI5.out.below hb6)
                clear hb6 hcut hcut2
                rcases Nat.eq_zero_or_pos k with hk0 | hk0
                · have hM0 := HK0.out hk0
                  have b0 : ((k : Int) == 0) = true := by simp; omega
                  have b1 : ((M : Int) == 0) = true := by simp; omega
                  clear hM0 hk0
                  go_wp2_with fail
                  go_ret
                  exact ⟨rfl, HB6.out⟩
                · obtain ⟨k1, hk1⟩ : ∃ k1, k = k1 + 1 := ⟨k - 1, by omega⟩
                  have b0 : ((k : Int) == 0) = false := by simp; omega
                  have b1 : (0 : Int) < (k : Int) := by omega
                  obtain ⟨ad2, e7, hcell2⟩ := HI6.out.at' (j := k1) (by rw [HKL.out]; omega)
                  cases e7
                  rw [HKV.out k1 (by omega), ← hk1, ← HMV.out] at hcell2
                  have f1 : (k : Int) - 1 = (k1 : Int) := by omega
                  have f2 : IntKind.i64.wrap ((k : Int) - 1) = (k1 : Int) := by rw [IntWalk.i64_in _ (by omega)]; omega
                  have f3 : IntKind.i64.wrap (k1 : Int) = (k1 : Int) := IntWalk.i64_in _ (by omega)
                  have f4 : (k1 : Int) < (l.length : Int) := by omega
                  have hmm : ((M : Int) == (M : Int)) = true := beq_self_eq_true _
                  clear hk0 hk1
                  go_wp2_with fail
                  go_ret
                  exact ⟨rfl, HB6.out⟩
end Go.Proofs.Ytcnohnieoecpdaa.Oct
