import Derived.Test.YtcpkfkcemaihfaaSessAb
/- SessAll. -/
namespace Go.Proofs.Ytcpkfkcemaihfaa.Oct
open Go.RowKit Go.Proofs.YtcpkfkcemaihfaaW.PrintWords Go.Proofs.Ytcpkfkcemaihfaa.M
set_option linter.unusedVariables false
set_option linter.unusedSimpArgs false
set_option maxRecDepth 200000 in
set_option maxHeartbeats 16000000 in
theorem sall_calls (w : World) (ses n : Int) (l : List PkT) (t : Bag) (A C : Option Addr) (c d : Nat) (hs : 0 ≤ ses ∧ ses < 4294967296) (hn : -9223372036854775808 ≤ n ∧ n ≤ 9223372036854775807) (hl : pickK.C w A l.length l) (ht : textK.C w C t.length t) (hb : ∀ x ∈ t, Bytes x) :
    Calls Try.prog 7 #[.int .u32 ses, .int .i64 n, .slice A l.length c, .slice C t.length d] w (Yes w) := by
  have HPK := Aside0.mk hl
  have HTX := Aside0.mk ht
  have HBY := Aside0.mk hb
  have hll : l.length ≤ 9223372036854775807 := hl.2.1
  have htl : t.length ≤ 9223372036854775807 := ht.2.1
  clear hl ht hb
  by_cases hbad : ses = 0 ∨ n < 1 ∨ 16 < n
  · have HBAD := Aside0.mk hbad
    clear hbad
    go_enter Try.func7, Try.ntmps7
    go_wp2_with fail
    refine (both_bad _ ses n HBAD.out).mono ?_
    rintro e w1 ⟨rfl, hw1⟩
    have hw1 := hw1.symm
    subst hw1
    go_wp2_with fail
    have HBA : Below w.heap.size w w := Below.refl _ _
    refine (ealive_calls _).mono ?_
    rintro e w9 ⟨rfl, hb9⟩
    have HB9 := Aside0.mk (HBA.trans (hb9.mono HBA.size))
    clear hb9 HBA
    go_wp2_with fail
    go_ret
    exact ⟨rfl, HB9.out⟩
  · obtain ⟨N, rfl⟩ := Int.eq_ofNat_of_zero_le (show 0 ≤ n by omega)
    have HSN : Aside0 ((1 ≤ ses ∧ ses < 4294967296) ∧ (1 ≤ N ∧ N ≤ 16)) := ⟨by omega⟩
    clear hbad hs hn
    have HLG := Aside0.mk (fun W (hW : Below w.heap.size w W) => slong_calls W t C d (Kd.C_below HTX.out hW))
    have hcase : longT t = true ∨ longT t = false := by cases longT t <;> simp
    rcases hcase with hg | hg
    all_goals
      rw [hg] at HLG
      clear hg
      go_enter Try.func7, Try.ntmps7
      go_wp2_with fail
      refine (both_good _ ses N HSN.out.1 HSN.out.2).mono ?_
      rintro e w1 ⟨a, b, p, rfl, ha, hab, hbp, he1, he2, hp, hb1⟩
      have HB1 := Aside0.mk hb1
      have HP1 := Aside0.mk (pa_new (s := ses) (n := N) ha hab hbp he1 he2 hp hb1)
      have HIV := Aside0.mk (pinv_new HSN.out.1 HSN.out.2)
      clear ha hab hbp he1 he2 hp hb1
      go_wp2_with fail
      refine (HLG.out _ HB1.out).mono ?_
      rintro e w2 ⟨rfl, hw2⟩
      have hw2 := hw2.symm
      subst hw2
      go_wp2_with fail
      first
      | (refine (ealive_calls _).mono ?_
         rintro e w9 ⟨rfl, hb9⟩
         have HB9 := Aside0.mk (HB1.out.trans (hb9.mono HB1.out.size))
         clear hb9
         go_wp2_with fail
         go_ret
         exact ⟨rfl, HB9.out⟩)
      | skip
    refine (pplay_calls w _ p _ _ ses l t A C c d HP1.out HIV.out (fun i hi => ⟨rfl, rfl⟩) HPK.out HTX.out HBY.out).mono ?_
    rintro e wz ⟨rfl, o2, st, hpa, hinv, hle⟩
    have HPR := Aside0.mk hpa
    have HI := Aside0.mk hinv
    have HLE := Aside0.mk hle
    clear hpa hinv hle HP1 HIV HB1 HLG
    have HRS := Aside0.mk (Rnd.start HI.out)
    obtain ⟨T0, hT0⟩ : ∃ T0, T0 = (st.tx 0).length := ⟨_, rfl⟩
    obtain ⟨T1, hT1⟩ : ∃ T1, T1 = (st.tx 1).length := ⟨_, rfl⟩
    obtain ⟨f0, hf0⟩ : ∃ f0, f0 = (st.e 0).first := ⟨_, rfl⟩
    obtain ⟨f1, hf1⟩ : ∃ f1, f1 = (st.e 1).first := ⟨_, rfl⟩
    have HTL : Aside0 (T0 ≤ 80 ∧ T1 ≤ 80) := ⟨by rw [hT0, hT1]; exact ⟨HLE.out 0 (by decide), HLE.out 1 (by decide)⟩⟩
    obtain ⟨N0, hN0⟩ : ∃ N0, N0 = (st.e 0).q.length := ⟨_, rfl⟩
    obtain ⟨N1, hN1⟩ : ∃ N1, N1 = (st.e 1).q.length := ⟨_, rfl⟩
    have hl0 := (HI.out 1 0 (by decide)).1.len
    have hl1 := (HI.out 0 1 (by decide)).1.len
    rw [← hN0, ← hf0, ← hT0] at hl0
    rw [← hN1, ← hf1, ← hT1] at hl1
    rw [← hT0, ← hT1, ← hf0, ← hf1] at HRS
    obtain ⟨M1, hM1⟩ : ∃ M1, M1 = N0 + N1 := ⟨_, rfl⟩
    obtain ⟨M, hM⟩ : ∃ M, M = M1 + 1 := ⟨_, rfl⟩
    have HMT : Aside0 (T0 ≤ f0 + M ∧ T1 + 1 ≤ f1 + M ∧ 1 ≤ M ∧ M ≤ 1000) := ⟨by have := HTL.out; omega⟩
    have g1 : (N0 : Int) + (N1 : Int) = (M1 : Int) := by omega
    have g2 : IntKind.i64.wrap (M1 : Int) = (M1 : Int) := IntWalk.i64_in _ (by have := HMT.out; omega)
    have g3 : (M1 : Int) + 1 = (M : Int) := by omega
    have g4 : IntKind.i64.wrap (M : Int) = (M : Int) := IntWalk.i64_in _ (by have := HMT.out; omega)
    have g5 : IntKind.i64.wrap ((N0 : Int) + (N1 : Int)) = (M1 : Int) := by rw [g1, g2]
    have g6 : IntKind.i64.wrap ((M1 : Int) + 1) = (M : Int) := by rw [g3, g4]
    obtain ⟨a2, vt2, vm2, hpv⟩ := HPR.out
    have hx0 := hpv.fields.1 0 (by decide)
    have hx1 := hpv.fields.1 1 (by decide)
    have HS : Aside0 (∀ W1, Below wz.heap.size wz W1 → W1.cell? ⟨p, 0, none⟩ = some (.pointer (some ⟨a2 0, 0, none⟩)) ∧ W1.cell? ⟨p, 1, none⟩ = some (.pointer (some ⟨a2 1, 0, none⟩))) := ⟨fun W1 hW1 => ⟨(hW1.cell (World.block_lt_of_cell? _ _ hx0)).trans hx0, (hW1.cell (World.block_lt_of_cell? _ _ hx1)).trans hx1⟩⟩
    have HWN : Aside0 (∀ W1 b (q : Nat), Below wz.heap.size wz W1 → (b = a2 0 ∧ q = N0 ∨ b = a2 1 ∧ q = N1) → Calls Try.prog 15 #[.pointer (some ⟨b, 0, none⟩)] W1 fun e w' => e = .returned (.int .i64 q) ∧ w' = W1) := ⟨fun W1 b q hW1 hb => by
      rcases hb with ⟨rfl, rfl⟩ | ⟨rfl, rfl⟩
      · rw [hN0]; exact ewaiting_calls W1 (a2 0) (st.e 0) _ ((hpv.under hW1).ends 0 (by decide))
      · rw [hN1]; exact ewaiting_calls W1 (a2 1) (st.e 1) _ ((hpv.under hW1).ends 1 (by decide))⟩
    have HBD : Aside0 (Below wz.heap.size wz wz.drew) := ⟨below_drew (Below.refl _ _)⟩
    clear hT0 hT1 hf0 hf1 hN0 hN1 hl0 hl1 hM1 hM hpv hx0 hx1
    go_wp2_with fail
    go_region_held_law (fun W1 => W1.cell? ⟨p, 0, none⟩ = some (.pointer (some ⟨a2 0, 0, none⟩)) ∧ W1.cell? ⟨p, 1, none⟩ = some (.pointer (some ⟨a2 1, 0, none⟩))) (exact HS.out _ (Aside0.out (by assumption)))
      ((go_at_call 15; refine (HWN.out _ _ _ (Aside0.out (by assumption)) (by first | exact .inl ⟨rfl, rfl⟩ | exact .inr ⟨rfl, rfl⟩)).mono ?_; rintro e w' ⟨rfl, hw'⟩; have hw' := hw'.symm; subst hw'))
    all_goals
      obtain ⟨wq, hwq⟩ : ∃ wq, wq = wz.drew := ⟨_, rfl⟩
      have HPQ : Aside0 (PA w wq p o2 st) := ⟨by rw [hwq]; exact HPR.out.under HBD.out⟩
      try rw [← hwq]
      clear hwq HS HWN HBD g1 g2 g3 g4 g5 g6 HPR HI HLE
      go_wp2_with fail
      go_loopw [11] (fun v11 wr => ∃ (n : Nat) (st : Ps) (o2 : Nat → Nat), n ≤ M ∧ v11 = .int .i64 n ∧ Aside0 (PA w wr p o2 st) ∧ Aside0 (Rnd ses f0 f1 T0 T1 n st)) (fun v _ => M - (intOf v).toNat)
      case atStart => exact ⟨0, st, o2, by omega, rfl, HPQ, HRS⟩
      case round =>
        obtain ⟨wx, hwx⟩ : ∃ wx, wx = wr := ⟨_, rfl⟩
        subst hwx
        clear HPQ HRS
        obtain ⟨n, st, o2, hn, rfl, HPR, HR⟩ := hrel
        have hM1000 := HMT.out.2.2.2
        by_cases hnl : n < M
        · have hnl' : (n : Int) < (M : Int) := by omega
          clear hM1000
          have HNL := Aside0.mk hnl
          have HN1 : Aside0 (n ≤ 1000) := ⟨by have := HMT.out; omega⟩
          go_wp2_with fail
          go_loopw [12] (fun v12 wr => ∃ (i : Nat) (st : Ps) (o2 : Nat → Nat), i ≤ 2 ∧ v12 = .int .i64 i ∧ Aside0 (PA w wr p o2 st) ∧ ((i = 0 ∧ Aside0 (Rnd ses f0 f1 T0 T1 n st)) ∨ (i = 1 ∧ Aside0 (Mid ses f0 f1 T0 T1 n st)) ∨ (i = 2 ∧ Aside0 (Rnd ses f0 f1 T0 T1 (n + 1) st)))) (fun v _ => 2 - (intOf v).toNat)
          case atStart => exact ⟨0, st, o2, by omega, rfl, HPR, .inl ⟨rfl, HR⟩⟩
          case round =>
            obtain ⟨wz, hwz⟩ : ∃ wz, wz = wr := ⟨_, rfl⟩
            subst hwz
            clear HPR HR
            obtain ⟨i, st, o2, hi, rfl, HPR, hst⟩ := hrel
            obtain ⟨a2, vt2, vm2, hpv⟩ := HPR.out
            have HPV := Aside0.mk hpv
            clear hpv
            rcases hst with ⟨rfl, HR⟩ | ⟨rfl, HR⟩ | ⟨rfl, HR⟩
            · skip
              have hx3 := HPV.out.fields.1 0 (by decide)
              obtain ⟨nf, hnf⟩ : ∃ nf, nf = (st.e 0).frames.length := ⟨_, rfl⟩
              have HNF := Aside0.mk hnf
              have hnf16 : nf ≤ 16 := by have := (Es.frames_bound (HPV.out.ends 0 (by decide)).is.2.2).2.2.2; omega
              have HFC : Aside0 (Calls Try.prog 14 #[.pointer (some ⟨a2 0, 0, none⟩)] wz (fun e W2 => ∃ A c, e = .returned (.slice A nf c) ∧ FLab W2 (rl wz o2 9) 9 (.slice A nf c) (st.e 0).frames ∧ Below wz.heap.size wz W2)) := ⟨by
                refine (eframes_calls wz (a2 0) (st.e 0) _ (HPV.out.ends 0 (by decide))).mono ?_
                rintro e W2 ⟨A, c, rfl, hfw, hb⟩
                rw [← hnf] at hfw ⊢
                exact ⟨A, c, rfl, hfw.flab (fun k hk => rl_new hk), hb⟩⟩
              clear hnf
              go_wp2_with fail
              refine HFC.out.mono ?_
              rintro e W2 ⟨A7, c7, rfl, hfl, hb2⟩
              have HP2 : Aside0 (PA w W2 p (rl wz o2 9) st) := ⟨⟨_, _, _, HPV.out.below' hb2 (fun k hk => rl_old hk) (rl_base HPV.out.base HPV.out.below.size)⟩⟩
              have HF2 := Aside0.mk hfl
              have HFD : Aside0 (Fed ses (st.e 0) 0 1 0 T0 T1 (st.e 1) st) := ⟨by
                have := Fed.start (i := 0) (j := 1) (by decide) HR.out.inv
                rw [HR.out.t0, HR.out.t1] at this
                exact this⟩
              obtain ⟨o1, ho1⟩ : ∃ o1, o1 = rl wz o2 9 := ⟨_, rfl⟩
              rw [← ho1] at HP2 HF2
              clear hfl hb2 ho1 hx3 HFC
              go_wp2_with fail
              go_loopw [14] (fun v14 wr => ∃ (k : Nat) (s3 : Ps) (o3 : Nat → Nat), k ≤ nf ∧ v14 = .int .i64 k ∧ Aside0 (PA w wr p o3 s3) ∧ Aside0 (Fed ses (st.e 0) 0 1 k T0 T1 (st.e 1) s3) ∧ Aside0 (FLab wr o3 9 (.slice A7 nf c7) (st.e 0).frames)) (fun v _ => nf - (intOf v).toNat)
              case atStart => exact ⟨0, st, o1, by omega, rfl, HP2, HFD, HF2⟩
              case round =>
                obtain ⟨wy, hwy⟩ : ∃ wy, wy = wr := ⟨_, rfl⟩
                subst hwy
                obtain ⟨k, s3, o3, hk, rfl, HPY, HFY, HLY⟩ := hrel
                clear HP2 HF2 HFD
                by_cases hkl : k < nf
                · have hkl' : (k : Int) < (nf : Int) := by omega
                  obtain ⟨ae, f, Au, du, rfl, hf, q0, q1, q2, q3, hq, hq9⟩ := HLY.out.get (j := k) (by rw [← HNF.out]; exact hkl)
                  have HFN := Aside0.mk (HFY.out.next (by decide) hf)
                  have HFO := Aside0.mk (HFY.out.right (by decide) hf)
                  have HON := Aside0.mk (HFY.out.inv.on (i := 1) (j := 0) (by decide) HFO.out)
                  have hlen : (s3.tx (2 + 1)).length ≤ 100000 := by
                    have h1 := (HFY.out.inv.fronts (i := 1) (j := 0) (by decide)).1
                    have h2 := HFY.out.t0
                    have h3 := HTL.out
                    omega
                  obtain ⟨u, hu⟩ : ∃ u, u = f.d.length := ⟨_, rfl⟩
                  rw [← hu] at q3
                  have HCO : Aside0 (Calls Try.prog 25 #[.pointer (some ⟨p, 0, none⟩), .int .i64 1, .agg #[.int .u32 f.s, .int .i64 f.q, .int .i64 f.k, .slice Au u du]] wy (fun e W' => e = .returned (.bool true) ∧ ∃ o', PA w W' p o' (s3.comes 1 f) ∧ Stays o3 wy W' o')) := ⟨by
                    rw [hu]
                    exact pcomes_calls w wy p 1 o3 s3 f Au du HPY.out (by decide) HFO.out.1 HFO.out.2.2.2.2.1 hq hq9 HON.out.1 hlen⟩
                  clear hf hq hq9 hu hlen
                  go_wp2_with fail
                  refine HCO.out.mono ?_
                  rintro e wb ⟨rfl, o4, hpn, hst⟩
                  have HPN := Aside0.mk hpn
                  have HLN := Aside0.mk (HLY.out.stays hst)
                  clear hpn hst q0 q1 q2 q3 HCO
                  go_wp2_with fail
                  exact ⟨⟨k + 1, _, _, by omega, by go_num, HPN, HFN, HLN⟩, by simp [intOf]; omega⟩
                · have hke : k = nf := by omega
                  have hkl' : ¬ (k : Int) < (nf : Int) := by omega
                  have HRN := Aside0.mk (Mid.of HR.out HFY.out (by rw [hke, HNF.out]))
                  clear hkl hke
                  go_wp2_with fail
                  exact ⟨⟨1, s3, o3, by omega, by go_num, HPY, by exact .inr (.inl ⟨rfl, HRN⟩)⟩, by simp [intOf]⟩
            · skip
              have hx3 := HPV.out.fields.1 1 (by decide)
              obtain ⟨nf, hnf⟩ : ∃ nf, nf = (st.e 1).frames.length := ⟨_, rfl⟩
              have HNF := Aside0.mk hnf
              have hnf16 : nf ≤ 16 := by have := (Es.frames_bound (HPV.out.ends 1 (by decide)).is.2.2).2.2.2; omega
              have HFC : Aside0 (Calls Try.prog 14 #[.pointer (some ⟨a2 1, 0, none⟩)] wz (fun e W2 => ∃ A c, e = .returned (.slice A nf c) ∧ FLab W2 (rl wz o2 9) 9 (.slice A nf c) (st.e 1).frames ∧ Below wz.heap.size wz W2)) := ⟨by
                refine (eframes_calls wz (a2 1) (st.e 1) _ (HPV.out.ends 1 (by decide))).mono ?_
                rintro e W2 ⟨A, c, rfl, hfw, hb⟩
                rw [← hnf] at hfw ⊢
                exact ⟨A, c, rfl, hfw.flab (fun k hk => rl_new hk), hb⟩⟩
              clear hnf
              go_wp2_with fail
              refine HFC.out.mono ?_
              rintro e W2 ⟨A7, c7, rfl, hfl, hb2⟩
              have HP2 : Aside0 (PA w W2 p (rl wz o2 9) st) := ⟨⟨_, _, _, HPV.out.below' hb2 (fun k hk => rl_old hk) (rl_base HPV.out.base HPV.out.below.size)⟩⟩
              have HF2 := Aside0.mk hfl
              have HFD : Aside0 (Fed ses (st.e 1) 1 0 0 T0 T1 (st.e 0) st) := ⟨by
                have := Fed.start (i := 1) (j := 0) (by decide) HR.out.inv
                rw [HR.out.t0, HR.out.t1] at this
                exact this⟩
              obtain ⟨o1, ho1⟩ : ∃ o1, o1 = rl wz o2 9 := ⟨_, rfl⟩
              rw [← ho1] at HP2 HF2
              clear hfl hb2 ho1 hx3 HFC
              go_wp2_with fail
              go_loopw [14] (fun v14 wr => ∃ (k : Nat) (s3 : Ps) (o3 : Nat → Nat), k ≤ nf ∧ v14 = .int .i64 k ∧ Aside0 (PA w wr p o3 s3) ∧ Aside0 (Fed ses (st.e 1) 1 0 k T0 T1 (st.e 0) s3) ∧ Aside0 (FLab wr o3 9 (.slice A7 nf c7) (st.e 1).frames)) (fun v _ => nf - (intOf v).toNat)
              case atStart => exact ⟨0, st, o1, by omega, rfl, HP2, HFD, HF2⟩
              case round =>
                obtain ⟨wy, hwy⟩ : ∃ wy, wy = wr := ⟨_, rfl⟩
                subst hwy
                obtain ⟨k, s3, o3, hk, rfl, HPY, HFY, HLY⟩ := hrel
                clear HP2 HF2 HFD
                by_cases hkl : k < nf
                · have hkl' : (k : Int) < (nf : Int) := by omega
                  obtain ⟨ae, f, Au, du, rfl, hf, q0, q1, q2, q3, hq, hq9⟩ := HLY.out.get (j := k) (by rw [← HNF.out]; exact hkl)
                  have HFN := Aside0.mk (HFY.out.next (by decide) hf)
                  have HFO := Aside0.mk (HFY.out.right (by decide) hf)
                  have HON := Aside0.mk (HFY.out.inv.on (i := 0) (j := 1) (by decide) HFO.out)
                  have hlen : (s3.tx (2 + 0)).length ≤ 100000 := by
                    have h1 := (HFY.out.inv.fronts (i := 0) (j := 1) (by decide)).1
                    have h2 := HFY.out.t1
                    have h3 := HTL.out
                    omega
                  obtain ⟨u, hu⟩ : ∃ u, u = f.d.length := ⟨_, rfl⟩
                  rw [← hu] at q3
                  have HCO : Aside0 (Calls Try.prog 25 #[.pointer (some ⟨p, 0, none⟩), .int .i64 0, .agg #[.int .u32 f.s, .int .i64 f.q, .int .i64 f.k, .slice Au u du]] wy (fun e W' => e = .returned (.bool true) ∧ ∃ o', PA w W' p o' (s3.comes 0 f) ∧ Stays o3 wy W' o')) := ⟨by
                    rw [hu]
                    exact pcomes_calls w wy p 0 o3 s3 f Au du HPY.out (by decide) HFO.out.1 HFO.out.2.2.2.2.1 hq hq9 HON.out.1 hlen⟩
                  clear hf hq hq9 hu hlen
                  go_wp2_with fail
                  refine HCO.out.mono ?_
                  rintro e wb ⟨rfl, o4, hpn, hst⟩
                  have HPN := Aside0.mk hpn
                  have HLN := Aside0.mk (HLY.out.stays hst)
                  clear hpn hst q0 q1 q2 q3 HCO
                  go_wp2_with fail
                  exact ⟨⟨k + 1, _, _, by omega, by go_num, HPN, HFN, HLN⟩, by simp [intOf]; omega⟩
                · have hke : k = nf := by omega
                  have hkl' : ¬ (k : Int) < (nf : Int) := by omega
                  have HRN := Aside0.mk (Rnd.of HR.out HFY.out (by rw [hke, HNF.out]))
                  clear hkl hke
                  go_wp2_with fail
                  exact ⟨⟨2, s3, o3, by omega, by go_num, HPY, by exact .inr (.inr ⟨rfl, HRN⟩)⟩, by simp [intOf]⟩
            · have hn1 := HN1.out
              go_wp2_with fail
              exact ⟨⟨n + 1, st, o2, by have := HNL.out; omega, by go_num, HPR, HR⟩, by have := HNL.out; simp [intOf]; omega⟩
        · have hne : n = M := by omega
          have hnl' : ¬ (n : Int) < (M : Int) := by omega
          have HAL := Aside0.mk (HR.out.all (by rw [hne]; exact HMT.out.1) (by rw [hne]; exact HMT.out.2.1) (by rw [hne]; exact HMT.out.2.2.1))
          obtain ⟨a2, vt2, vm2, hpv⟩ := HPR.out
          have HPV := Aside0.mk hpv
          have hx3 := hpv.fields.1 1 (by decide)
          have hnf : (st.e 1).frames.length = 1 := by rw [Es.frames_len, if_pos HAL.out.2.1]
          have HFC : Aside0 (Calls Try.prog 14 #[.pointer (some ⟨a2 1, 0, none⟩)] wx (fun e W2 => ∃ A c, e = .returned (.slice A 1 c) ∧ FLab W2 (rl wx o2 9) 9 (.slice A 1 c) (st.e 1).frames ∧ Below wx.heap.size wx W2)) := ⟨by
            refine (eframes_calls wx (a2 1) (st.e 1) _ (hpv.ends 1 (by decide))).mono ?_
            rintro e W2 ⟨A, c, rfl, hfw, hb⟩
            rw [hnf] at hfw ⊢
            exact ⟨A, c, rfl, hfw.flab (fun k hk => rl_new hk), hb⟩⟩
          have HNF := Aside0.mk hnf
          clear hpv hnf hne hM1000 hnl
          go_wp2_with fail
          refine HFC.out.mono ?_
          rintro e W2 ⟨A7, c7, rfl, hfl, hb2⟩
          have HP2 : Aside0 (PA w W2 p (rl wx o2 9) st) := ⟨⟨_, _, _, HPV.out.below' hb2 (fun k hk => rl_old hk) (rl_base HPV.out.base HPV.out.below.size)⟩⟩
          obtain ⟨ae, f, Au, du, rfl, hf, q0, q1, q2, q3, hq, hq9⟩ := hfl.get (j := 0) (by rw [HNF.out]; decide)
          have HFO := Aside0.mk ((HR.out.inv 0 1 (by decide)).1.frames f (List.mem_of_getElem? hf))
          have HON := Aside0.mk (HR.out.inv.on (i := 0) (j := 1) (by decide) HFO.out)
          have hlen : (st.tx (2 + 0)).length ≤ 100000 := by
            have h1 := HAL.out.2.2.1
            have h3 := HTL.out
            show (st.tx 2).length ≤ _
            omega
          obtain ⟨u, hu⟩ : ∃ u, u = f.d.length := ⟨_, rfl⟩
          rw [← hu] at q3
          have HCO : Aside0 (Calls Try.prog 25 #[.pointer (some ⟨p, 0, none⟩), .int .i64 0, .agg #[.int .u32 f.s, .int .i64 f.q, .int .i64 f.k, .slice Au u du]] W2 (fun e W' => e = .returned (.bool true) ∧ ∃ o', PA w W' p o' (st.comes 0 f) ∧ Stays (rl wx o2 9) W2 W' o')) := ⟨by
            rw [hu]
            exact pcomes_calls w W2 p 0 (rl wx o2 9) st f Au du HP2.out (by decide) HFO.out.1 HFO.out.2.2.2.2.1 hq hq9 HON.out.1 hlen⟩
          have hz4 : ae.add (0 * 4) = ae := by simp [Addr.add]
          rw [hz4] at q0 q1 q2 q3
          clear hz4
          clear hf hq hq9 hu hlen hfl hb2 hx3 HFC
          go_wp2_with fail
          refine HCO.out.mono ?_
          rintro e wb ⟨rfl, o4, hpn, hst⟩
          obtain ⟨st', hst'⟩ : ∃ st', st' = st.comes 0 f := ⟨_, rfl⟩
          rw [← hst'] at hpn
          have HIN : Aside0 (Pinv ses st') := ⟨by rw [hst']; exact HON.out.2.1⟩
          have HFI : Aside0 ((st'.e 0).q.length = 0 ∧ (st'.e 1).q.length = 0 ∧ (st'.tx 0).length = T0 ∧ (st'.tx 1).length = T1 ∧ (st'.tx 2).length = T1 ∧ (st'.tx 3).length = T0) := ⟨by
            have h1 := HON.out
            rw [← hst'] at h1
            obtain ⟨_, _, h3, h4, h5, h6, h7, _⟩ := h1
            obtain ⟨b1, b2, b3, b4, b5, b6⟩ := HAL.out
            have c0 := (HIN.out 1 0 (by decide)).1
            have c1 := (HIN.out 0 1 (by decide)).1
            have d0 := c0.len
            have d1 := c1.le2
            have t0 := HR.out.t0
            have t1 := HR.out.t1
            have o0 : (st'.tx 2).length = min (st'.e 0).exp (st'.tx 1).length := by rw [show (2 : Nat) = 2 + 0 from rfl, c1.out, List.length_take]
            have o1 : (st'.tx 3).length = min (st'.e 1).exp (st'.tx 0).length := by rw [show (3 : Nat) = 2 + 1 from rfl, c0.out, List.length_take]
            have o2 : (st.tx 3).length = min (st.e 1).exp (st.tx 0).length := by rw [show (3 : Nat) = 2 + 1 from rfl, (HR.out.inv 1 0 (by decide)).1.out, List.length_take]
            rw [h4] at d0 o1
            rw [h5] at d1 o0
            rw [h3] at o1
            rw [h4, h5]
            refine ⟨by omega, by rw [h3]; exact b2, t0, t1, by omega, by omega⟩⟩
          have HPN := Aside0.mk hpn
          clear hpn hst q0 q1 q2 q3 HCO hst' HON HFO HP2 HPV HPR HAL HR
          obtain ⟨a3, vt3, vm3, hpv⟩ := HPN.out
          obtain ⟨A0, c0, e0, _⟩ := (hpv.texts 0 (by decide)).form
          obtain ⟨A1, c1, e1, _⟩ := (hpv.texts 1 (by decide)).form
          obtain ⟨A2, c2, e2, _⟩ := (hpv.texts 2 (by decide)).form
          obtain ⟨A3, c3, e3, _⟩ := (hpv.texts 3 (by decide)).form
          rw [HFI.out.2.2.1] at e0
          rw [HFI.out.2.2.2.1] at e1
          rw [HFI.out.2.2.2.2.1] at e2
          rw [HFI.out.2.2.2.2.2] at e3
          have HS : Aside0 (∀ W1, Below wb.heap.size wb W1 → W1.cell? ⟨p, 0, none⟩ = some (.pointer (some ⟨a3 0, 0, none⟩)) ∧ W1.cell? ⟨p, 1, none⟩ = some (.pointer (some ⟨a3 1, 0, none⟩)) ∧ W1.cell? ⟨p, 2, none⟩ = some (.slice A0 T0 c0) ∧ W1.cell? ⟨p, 3, none⟩ = some (.slice A1 T1 c1) ∧ W1.cell? ⟨p, 4, none⟩ = some (.slice A2 T1 c2) ∧ W1.cell? ⟨p, 5, none⟩ = some (.slice A3 T0 c3)) := ⟨fun W1 hW1 => by
            have hp := hpv.under hW1
            refine ⟨hp.fields.1 0 (by decide), hp.fields.1 1 (by decide), ?_, ?_, ?_, ?_⟩
            · rw [← e0]; exact (hp.fields.2.1 0 (by decide)).1
            · rw [← e1]; exact (hp.fields.2.1 1 (by decide)).1
            · rw [← e2]; exact (hp.fields.2.1 2 (by decide)).1
            · rw [← e3]; exact (hp.fields.2.1 3 (by decide)).1⟩
          have HPV := Aside0.mk hpv
          have HWA : Aside0 (∀ W1 b, Below wb.heap.size wb W1 → b = a3 0 ∨ b = a3 1 → Calls Try.prog 15 #[.pointer (some ⟨b, 0, none⟩)] W1 fun e w' => e = .returned (.int .i64 0) ∧ w' = W1) := ⟨fun W1 b hW1 hb => by
            rcases hb with rfl | rfl
            · have := ewaiting_calls W1 (a3 0) (st'.e 0) _ ((HPV.out.under hW1).ends 0 (by decide))
              rw [HFI.out.1] at this
              exact this
            · have := ewaiting_calls W1 (a3 1) (st'.e 1) _ ((HPV.out.under hW1).ends 1 (by decide))
              rw [HFI.out.2.1] at this
              exact this⟩
          have HFR : Aside0 (∀ W1, Below wb.heap.size wb W1 → Calls Try.prog 26 #[.pointer (some ⟨p, 0, none⟩)] W1 (fun e W' => e = .returned (.bool true) ∧ Below wb.heap.size wb W')) := ⟨fun W1 hW1 => by
            refine (pfronts_calls w W1 p o4 st' (HPN.out.under hW1) (fun i j hij => HIN.out.fronts hij) (fun i hi => ?_)).mono ?_
            · have h1 := HFI.out
              have h2 := HTL.out
              rcases (by omega : i = 0 ∨ i = 1) with rfl | rfl
              · show (st'.tx 2).length ≤ _
                omega
              · show (st'.tx 3).length ≤ _
                omega
            · rintro e W' ⟨rfl, hb⟩
              exact ⟨rfl, hW1.trans (hb.mono hW1.size)⟩⟩
          have HLV : Aside0 (∀ W1, Below wb.heap.size wb W1 → Calls Try.prog 11 #[] W1 (fun e W' => e = .returned (.bool true) ∧ Below wb.heap.size wb W')) := ⟨fun W1 hW1 => by
            refine (ealive_calls W1).mono ?_
            rintro e W' ⟨rfl, hb⟩
            exact ⟨rfl, hW1.trans (hb.mono hW1.size)⟩⟩
          have HBD : Aside0 (Below wb.heap.size wb wb.drew) := ⟨below_drew (Below.refl _ _)⟩
          have HBF := Aside0.mk HPV.out.below
          have ht0 : ((T0 : Int) == (T0 : Int)) = true := beq_self_eq_true _
          have ht1 : ((T1 : Int) == (T1 : Int)) = true := beq_self_eq_true _
          have hz0 : IntKind.i64.wrap (0 : Int) = 0 := by decide
          clear hpv e0 e1 e2 e3
          go_wp2_with fail
          go_region_held_law (fun W1 => W1.cell? ⟨p, 0, none⟩ = some (.pointer (some ⟨a3 0, 0, none⟩)) ∧ W1.cell? ⟨p, 1, none⟩ = some (.pointer (some ⟨a3 1, 0, none⟩)) ∧ W1.cell? ⟨p, 2, none⟩ = some (.slice A0 T0 c0) ∧ W1.cell? ⟨p, 3, none⟩ = some (.slice A1 T1 c1) ∧ W1.cell? ⟨p, 4, none⟩ = some (.slice A2 T1 c2) ∧ W1.cell? ⟨p, 5, none⟩ = some (.slice A3 T0 c3)) (exact HS.out _ (Aside0.out (by assumption)))
            (first
             | (go_at_call 11; refine (HLV.out _ (Aside0.out (by assumption))).mono ?_; rintro e wi ⟨rfl, hbi⟩; have HBI := Aside0.mk hbi; clear hbi)
             | (go_at_call 26; refine (HFR.out _ (Aside0.out (by assumption))).mono ?_; rintro e wj ⟨rfl, hbj⟩; have HBJ := Aside0.mk hbj; clear hbj)
             | (go_at_call 15; refine (HWA.out _ _ (Aside0.out (by assumption)) (by first | exact .inl rfl | exact .inr rfl)).mono ?_; rintro e w' ⟨rfl, hw'⟩; have hw' := hw'.symm; subst hw'))
          all_goals
            go_wp2_with fail
            go_ret
            exact ⟨by first | rfl | simp, HBF.out.trans (HBJ.out.mono HBF.out.size)⟩
end Go.Proofs.Ytcpkfkcemaihfaa.Oct
