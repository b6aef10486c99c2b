import Derived.Test.YtcnohnieoecpdaaWalO
/- The document's Read: the walk. -/
namespace Go.Proofs.Ytcnohnieoecpdaa.Oct
open Go.RowKit Go.Proofs.YtcnohnieoecpdaaW.PrintWords Go.Proofs.Ytcnohnieoecpdaa.M
set_option linter.unusedVariables false
set_option linter.unusedSimpArgs false
set_option maxRecDepth 20000 in
set_option maxHeartbeats 8000000 in
theorem rread_calls (w : World) (b : List Int) (A : Option Addr) (c : Nat) (hcap : b.length ≤ c) (h : Kd.C (Kd.int .u8) w A b.length b) (hb : Bytes b) (hlen : b.length ≤ 10000000000) :
    Calls Try.prog 16 #[.slice A b.length c] w (RetRead w b) := by
  have HR := Aside0.mk h
  have HX := Aside0.mk hb
  have HCAP := Aside0.mk hcap
  clear h hb
  go_enter Try.func16, Try.ntmps16
  go_wp2_with fail
  go_loopw [4, 5] (fun v4 v5 wr => ∃ (i : Nat) (ls : List (Nat × Rc)), i ≤ b.length ∧ v5 = .int .i64 i ∧ Aside0 (Below w.heap.size w wr) ∧ Aside0 (RW wr w.heap.size v4 (ls.map (·.2))) ∧ Aside0 (readL 0 b = ls ++ readL i (b.drop i)) ∧ Aside0 (endL ls = (i : Int))) (fun _ v _ => b.length - (intOf v).toNat)
  case atStart => exact ⟨0, [], Nat.zero_le _, rfl, ⟨Below.refl _ _⟩, ⟨RW.nil _ _⟩, ⟨by rw [List.nil_append]; rfl⟩, ⟨rfl⟩⟩
  case round =>
    obtain ⟨i, ls, hi, rfl, HB, HO, HM, HE⟩ := hrel
    obtain ⟨A4, c4, rfl⟩ := HO.out.form
    obtain ⟨n4, hn4⟩ : ∃ n4, n4 = (ls.map (·.2)).length := ⟨_, rfl⟩
    have HN4 := Aside0.mk hn4
    rw [← hn4] at HO ⊢
    clear hn4
    have HEND : Aside0 (∀ W, ¬ isR (b.drop i) → Below wr.heap.size wr W → RetRead w b (.returned (.tuple #[.slice A4 n4 c4, .int .i64 i])) W) := ⟨fun W hn hW => by
      have hm : readL 0 b = ls := by rw [HM.out, readL_no hn, List.append_nil]
      refine ⟨_, by rw [hm, HE.out], ?_, HB.out.trans (hW.mono HB.out.size)⟩
      rw [hm]
      exact HO.out.below hW⟩
    obtain ⟨s7, hs7⟩ : ∃ s7, s7 = i + 7 := ⟨_, rfl⟩
    have f7 : (i : Int) + 7 = (s7 : Int) := by omega
    have f7' : IntKind.i64.wrap ((i : Int) + 7) = (s7 : Int) := by rw [IntWalk.i64_in _ (by omega)]; omega
    have v7 : IntKind.i64.wrap (s7 : Int) = (s7 : Int) := IntWalk.i64_in _ (by omega)
    by_cases h7 : b.length < s7
    · have h7' : ¬ (s7 : Int) ≤ (b.length : Int) := by omega
      have HNR : Aside0 (¬ isR (b.drop i)) := ⟨isR_short (by omega)⟩
      clear hs7 h7
      go_wp2_with fail
      go_ret2
      exact HEND.out _ HNR.out (Below.refl _ _)
    · have h7' : (s7 : Int) ≤ (b.length : Int) := by omega
      have HC := Aside0.mk (Kd.C_below HR.out HB.out)
      obtain ⟨ad, rfl, hx⟩ := C_byte HC.out (show i < b.length by omega)
      obtain ⟨ad', e, hy⟩ := C_byte HC.out (show i + 1 < b.length by omega)
      cases e
      obtain ⟨ad', e, hk⟩ := C_byte HC.out (show i + 2 < b.length by omega)
      cases e
      have hx0 := HX.out.getD i
      have hy0 := HX.out.getD (i + 1)
      have hk0 := HX.out.getD (i + 2)
      obtain ⟨N, hN⟩ : ∃ N : Nat, (N : Int) = 256 * b.getD i 0 + b.getD (i + 1) 0 := ⟨(256 * b.getD i 0 + b.getD (i + 1) 0).toNat, by unfold Byte at hx0 hy0; omega⟩
      have HD := Aside0.mk (isR_bytes HX.out (show i + 7 ≤ b.length by omega) hN)
      obtain ⟨x, hxe⟩ : ∃ x, x = b.getD i 0 := ⟨_, rfl⟩
      obtain ⟨y, hye⟩ : ∃ y, y = b.getD (i + 1) 0 := ⟨_, rfl⟩
      obtain ⟨k, hke⟩ : ∃ k, k = b.getD (i + 2) 0 := ⟨_, rfl⟩
      rw [← hxe] at hx hx0 hN
      rw [← hye] at hy hy0 hN
      rw [← hke] at hk hk0 HD
      clear hxe hye hke
      obtain ⟨hxa, hxb⟩ := hx0
      obtain ⟨hya, hyb⟩ := hy0
      obtain ⟨hka, hkb⟩ := hk0
      obtain ⟨a1, ha1⟩ : ∃ a1, a1 = i + 1 := ⟨_, rfl⟩
      obtain ⟨a2, ha2⟩ : ∃ a2, a2 = i + 2 := ⟨_, rfl⟩
      obtain ⟨a3, ha3⟩ : ∃ a3, a3 = i + 3 := ⟨_, rfl⟩
      obtain ⟨e4, he4⟩ : ∃ e4, e4 = a3 + N := ⟨_, rfl⟩
      obtain ⟨e7, he7⟩ : ∃ e7, e7 = s7 + N := ⟨_, rfl⟩
      rw [← ha1] at hy
      rw [← ha2] at hk
      rw [← ha3, ← he4, ← hs7, ← he7] at HD
      have hNB : N < 65536 := by omega
      have HF : Aside0 (a1 = i + 1 ∧ a2 = i + 2 ∧ a3 = i + 3 ∧ e4 = a3 + N ∧ s7 = i + 7 ∧ e7 = s7 + N ∧ s7 ≤ b.length ∧ N < 65536) := ⟨by omega⟩
      have f1 : (i : Int) + 1 = (a1 : Int) := by omega
      have f1' : IntKind.i64.wrap ((i : Int) + 1) = (a1 : Int) := by rw [IntWalk.i64_in _ (by omega)]; omega
      have v1 : IntKind.i64.wrap (a1 : Int) = (a1 : Int) := IntWalk.i64_in _ (by omega)
      have e3 : IntKind.i64.wrap (256 * x) = 256 * x := IntWalk.i64_in _ (by omega)
      have e4' : IntKind.i64.wrap (256 * x + y) = (N : Int) := by rw [IntWalk.i64_in _ (by omega)]; omega
      have e4'' : 256 * x + y = (N : Int) := hN.symm
      have f8 : (s7 : Int) + (N : Int) = (e7 : Int) := by omega
      have f8' : IntKind.i64.wrap ((s7 : Int) + (N : Int)) = (e7 : Int) := by rw [IntWalk.i64_in _ (by omega)]; omega
      have v8 : IntKind.i64.wrap (e7 : Int) = (e7 : Int) := IntWalk.i64_in _ (by omega)
      have b1 : (a1 : Int) < (b.length : Int) := by omega
      have b0 : (i : Int) < (b.length : Int) := by omega
      have b0' : (0 : Int) ≤ (a1 : Int) := by omega
      clear ha1 ha2 ha3 he4 hs7 hN h7
      by_cases hlong : b.length < e7
      · have hl' : (b.length : Int) < (e7 : Int) := by omega
        have HNR : Aside0 (¬ isR (b.drop i)) := ⟨fun h => by have := HD.out.2.2.1 h; omega⟩
        clear he7 hlong HD
        go_wp2_with fail
        go_quiet (fail)
        have HBD : Aside0 (Below wr.heap.size wr (wr.drewN nq)) := ⟨pw_below_drewN (Below.refl _ _) _⟩
        go_wp2_with fail
        go_ret2
        exact HEND.out _ HNR.out HBD.out
      · have hl' : ¬ (b.length : Int) < (e7 : Int) := by omega
        clear he7
        go_wp2_with fail
        go_quiet (fail)
        obtain ⟨w2, hw2⟩ : ∃ w2, w2 = wr.drewN nq := ⟨_, rfl⟩
        have HB2 : Aside0 (Below wr.heap.size wr w2) := ⟨by rw [hw2]; exact pw_below_drewN (Below.refl _ _) _⟩
        rw [← hw2]
        clear hw2 hx hy
        obtain ⟨i0, hi0, hz0, hz1, hz2⟩ := info_parts info_u8
        have hF := HF.out
        have f2 : (i : Int) + 2 = (a2 : Int) := by omega
        have f2' : IntKind.i64.wrap ((i : Int) + 2) = (a2 : Int) := by rw [IntWalk.i64_in _ (by omega)]; omega
        have v2 : IntKind.i64.wrap (a2 : Int) = (a2 : Int) := IntWalk.i64_in _ (by omega)
        have f3 : (i : Int) + 3 = (a3 : Int) := by omega
        have f3' : IntKind.i64.wrap ((i : Int) + 3) = (a3 : Int) := by rw [IntWalk.i64_in _ (by omega)]; omega
        have v3 : IntKind.i64.wrap (a3 : Int) = (a3 : Int) := IntWalk.i64_in _ (by omega)
        have f4 : (a3 : Int) + (N : Int) = (e4 : Int) := by omega
        have f4' : IntKind.i64.wrap ((a3 : Int) + (N : Int)) = (e4 : Int) := by rw [IntWalk.i64_in _ (by omega)]; omega
        have v4 : IntKind.i64.wrap (e4 : Int) = (e4 : Int) := IntWalk.i64_in _ (by omega)
        have vk : IntKind.i64.wrap k = k := IntWalk.i64_in _ (by omega)
        have b2 : (a2 : Int) < (b.length : Int) := by omega
        have b2' : (0 : Int) ≤ (a2 : Int) := by omega
        obtain ⟨z, hzz⟩ : ∃ z, z = (b.take e4).drop a3 := ⟨_, rfl⟩
        obtain ⟨q, hqq⟩ : ∃ q, q = (b.take e7).drop i := ⟨_, rfl⟩
        rw [← hzz, ← hqq] at HD
        obtain ⟨m7, hm7⟩ : ∃ m7, m7 = e7 - i := ⟨_, rfl⟩
        obtain ⟨ad7, c7, hx1, hx2, hx3, hx4⟩ := piece rfl HC.out HCAP.out (show a3 ≤ e4 by omega) (show e4 ≤ b.length by omega) (show N = e4 - a3 by omega)
        obtain ⟨ad9, c9, hp1, hp2, hp3, hp4⟩ := piece rfl HC.out HCAP.out (show i ≤ e7 by omega) (show e7 ≤ b.length by omega) hm7
        have hcut7 := cut_mid (P := Try.prog) 22 5 .i64 .i64 Try.underlying22 hi0 1 hz1 (some ad) b.length c (a3 : Int) (e4 : Int) (by omega) (by omega) (by omega) HCAP.out
        have hcut9 := cut_mid (P := Try.prog) 22 5 .i64 .i64 Try.underlying22 hi0 1 hz1 (some ad) b.length c (i : Int) (e7 : Int) (by omega) (by omega) (by omega) HCAP.out
        simp only [Int.toNat_natCast] at hcut7 hcut9
        rw [hx3, hx4, show e4 - a3 = N by omega] at hcut7
        rw [hp3, hp4, ← hm7] at hcut9
        rw [← hzz] at hx1 hx2
        rw [← hqq] at hp1 hp2
        have HZB : Aside0 (Bytes z) := ⟨by rw [hzz]; exact (HX.out.take _).drop _⟩
        have HQB : Aside0 (Bytes q) := ⟨by rw [hqq]; exact (HX.out.take _).drop _⟩
        have HZN := Aside0.mk hx1
        have HQN := Aside0.mk hp1
        have HCQ : Aside0 (Kd.C (Kd.int .u8) wr (some ad9) m7 q) := ⟨hp2⟩
        have HCP : Aside0 (∀ W, Below wr.heap.size wr W → Calls Try.prog 14 #[.slice (some ad7) N c7] W (fun e W' => ∃ A3 d3, e = .returned (.slice A3 z.length d3) ∧ OB W' W.heap.size (.slice A3 z.length d3) z ∧ Below W.heap.size W W')) := ⟨fun W hW => by
          have := copy_calls W (some ad7) c7 z (by rw [hx1]; exact Kd.C_below hx2 hW) (by omega)
          rw [hx1] at this
          refine this.mono ?_
          rintro e W' ⟨v, rfl, ho, hb⟩
          obtain ⟨A3, d3, rfl, _⟩ := ho.reads
          exact ⟨A3, d3, rfl, ho, hb⟩⟩
        have HKC : Aside0 (∀ W, Below wr.heap.size wr W → W.cell? (ad.add a2) = some (.int .u8 k)) := ⟨fun W hW => (hW.cell (World.block_lt_of_cell? _ _ hk)).trans hk⟩
        have HBD : Aside0 (Below wr.heap.size wr w2.drew) := ⟨below_drew HB2.out⟩
        clear hi0 hz0 hz1 hz2 hF hzz hqq hm7 hx1 hx2 hx3 hx4 hp1 hp2 hp3 hp4 hk
        go_wp2_with fail
        go_region_held_law (fun W => W.cell? (ad.add a2) = some (.int .u8 k)) (exact HKC.out _ (by first | exact (Aside0.out (by assumption)) | exact ((Aside0.out (by assumption) : Below _ _ _).setCell HB2.out.size _) | exact (((Aside0.out (by assumption) : Below _ _ _).setCell HB2.out.size _).setCell HB2.out.size _) | exact below_alloc (Aside0.out (by assumption)) _ | exact below_drew (below_alloc HB2.out _)))
          ((refine step_call (by rfl) 14 #[.tmp 50] #[22] (by rfl) #[.slice (some ad7) N c7] (by rfl) Try.f14 Try.func14 (by kernel_rfl) (by kernel_rfl) ?_; refine (HCP.out _ (by first | exact (Aside0.out (by assumption)) | exact below_alloc (Aside0.out (by assumption)) _ | exact below_drew (below_alloc HB2.out _))).mono ?_; rintro e w3 ⟨A3, d3, rfl, ho3, hb3⟩; have HO3 := Aside0.mk ho3; have HB3 := Aside0.mk hb3; have HB3r : Aside0 (Below wr.heap.size wr w3) := ⟨Below.trans (by first | exact (Aside0.out (by assumption)) | exact below_alloc (Aside0.out (by assumption)) _ | exact below_drew (below_alloc HB2.out _)) (hb3.mono (Below.size (by first | exact (Aside0.out (by assumption)) | exact below_alloc (Aside0.out (by assumption)) _ | exact below_drew (below_alloc HB2.out _))))⟩; (try (have hh3 := (hb3.block w2.heap.size (by simp)).trans (heap_alloc_new w2 _); obtain ⟨t0, t1, r0, r1⟩ := two_cells' hh3; have HH3 := Aside0.mk hh3; clear hh3)); clear ho3 hb3; refine ⟨_, rfl, ?_⟩))
        · obtain ⟨wF, hwF⟩ : ∃ wF, wF = w3.alloc (.cells #[.int .i64 k, .slice A3 z.length d3] 24) := ⟨_, rfl⟩
          have h2 : w2.drew.heap.size = w2.heap.size := rfl
          have hhf : wF.heap[w3.heap.size]? = some (.cells #[.int .i64 k, .slice A3 z.length d3] 24 (0, 0)) := by rw [hwF]; exact heap_alloc_new w3 _
          have hb3F : Below w3.heap.size w3 wF := by rw [hwF]; exact below_alloc (Below.refl _ _) _
          have HBF := Aside0.mk (HB3r.out.trans (hb3F.mono HB3r.out.size))
          have HOF : Aside0 (OB wF w.heap.size (.slice A3 z.length d3) z) := ⟨(HO3.out.below hb3F).lower (by rw [h2]; exact Nat.le_trans HB.out.size HB2.out.size)⟩
          obtain ⟨p, hp⟩ : ∃ p, p = w3.heap.size := ⟨_, rfl⟩
          rw [← hp] at hhf ⊢
          rw [← hwF]
          have HF0 := HF
          have HF := Aside0.mk hhf
          clear h2 hhf hb3F hp hwF HO3 HB3 HB3r HCP HKC
          obtain ⟨t0, t1, _, _⟩ := two_cells' HF.out
          have HWR := Aside0.mk (rwrite_calls wF (k, z) A3 d3 (QB.C (QB.of_OB HOF.out)) HZB.out)
          by_cases hgd : Rc.good (k, z)
          · have HV := writeR_good hgd
            rw [HV] at HWR
            have hal := Rc.all_bytes hgd HZB.out
            have hall := Rc.all_len (k, z)
            obtain ⟨y2, hy2⟩ : ∃ y2, y2 = Rc.all (k, z) := ⟨_, rfl⟩
            rw [← hy2] at HWR HD hal
            have HAB := Aside0.mk hal
            clear HV hal hall hy2
            go_wp2_with fail
            refine HWR.out.mono ?_
            rintro e w5 ⟨v5, rfl, hq5, hb5⟩
            dsimp only at hq5 ⊢
            obtain ⟨A5, c5, rfl, _, _, hr5⟩ := hq5.form
            have HR5 := Aside0.mk hr5
            have HB5 := Aside0.mk (HBF.out.trans (hb5.mono HBF.out.size))
            have HF5 := Aside0.mk (blk_keep HF.out hb5)
            have HO5 := Aside0.mk (HOF.out.below hb5)
            have HQ5 := Aside0.mk (Kd.C_below HCQ.out HB5.out)
            obtain ⟨S1, hS1⟩ : ∃ S1, S1 = strOfNums y2 := ⟨_, rfl⟩
            obtain ⟨S2, hS2⟩ : ∃ S2, S2 = strOfNums q := ⟨_, rfl⟩
            obtain ⟨l5, hl5⟩ : ∃ l5, l5 = y2.length := ⟨_, rfl⟩
            have cv1 : ∀ m, (convert 22 9 (.slice A5 l5 c5)).run Try.prog (w5.drewN m) = .ok (.string S1) (w5.drewN m) := fun m => by rw [hS1, hl5]; exact Kd.C_string Try.underlying22 Try.underlying5 Try.underlying9 (Kd.C_drewN HR5.out m)
            have cv2 : ∀ m, (convert 22 9 (.slice (some ad9) m7 c9)).run Try.prog (w5.drewN m) = .ok (.string S2) (w5.drewN m) := fun m => by rw [hS2]; exact Kd.C_string Try.underlying22 Try.underlying5 Try.underlying9 (Kd.C_drewN HQ5.out m)
            rw [← hl5]
            by_cases hyq : y2 = q
            · have n2 : (S1.toList == S2.toList) = true := by rw [hS1, hS2, hyq]; exact beq_self_eq_true _
              have HIS : Aside0 (isR (b.drop i)) := ⟨HD.out.2.2.2 ⟨by omega, hgd, hyq⟩⟩
              clear hyq hS1 hS2 hl5 hq5 hb5 hr5 HWR t0 t1
              go_wp2_with fail
              go_quiet (fail)
              obtain ⟨w6, hw6⟩ : ∃ w6, w6 = w5.drewN nq := ⟨_, rfl⟩
              have hb56 : Below w5.heap.size w5 w6 := by rw [hw6]; exact pw_below_drewN (Below.refl _ _) _
              have HB6 := Aside0.mk (HB5.out.trans (hb56.mono HB5.out.size))
              have hba : Below w6.heap.size w6 (w6.alloc (.cells #[.int .i64 k, .slice A3 z.length d3] 24)) := below_alloc (Below.refl _ _) _
              have HBW := Aside0.mk (below_alloc (HB.out.trans (HB6.out.mono HB.out.size)) (.cells #[.int .i64 k, .slice A3 z.length d3] 24))
              have HO6 := Aside0.mk ((HO5.out.below hb56).below hba)
              have HV6 := Aside0.mk ((HO.out.below HB6.out).below hba)
              obtain ⟨t0, t1, _, _⟩ := two_cells' (blk_keep HF5.out hb56)
              have HLN : Aside0 ((ls.map (·.2)).length ≤ 10000000000) := ⟨by
                have h1 := readL_len b 0
                rw [HM.out, List.length_append] at h1
                rw [List.length_map]
                omega⟩
              rw [← hw6]
              clear hw6 hb56 hba cv1 cv2 hcut9 hcut7
              go_wp2_with ((with_reducible refine gate_dst (N := 78) rfl ?_); at_builtin; refine app_rec w.heap.size rfl (.tmp 75) (.tmp 77) rfl (.slice A4 n4 c4) (ls.map (·.2)) (k, z) (.slice A3 z.length d3) w6.heap.size rfl rfl HV6.out (heap_alloc_new w6 _) HO6.out HBW.out.size HLN.out ?_; intro v8 w8 ho8 hg8 hk8; have HO8 := Aside0.mk ho8; have HB8 := Aside0.mk (HBW.out.grown hg8 HBW.out.size hk8); clear ho8 hg8 hk8)
              go_roundw
              case rel =>
                refine ⟨e7, ls ++ [(e7, (k, z))], by have := HF0.out; omega, by go_num, HB8, ⟨by rw [List.map_append]; exact HO8.out⟩, ⟨?_⟩, ⟨by rw [endL_snoc]⟩⟩
                have hF := HF0.out
                rw [HM.out, readL_yes HIS.out, HD.out.1, HD.out.2.1, List.drop_drop, show i + (7 + N) = e7 by omega, List.append_assoc]
                rfl
              case measure => have := HF0.out; simp [intOf]; omega
            · have n2 : (S1.toList == S2.toList) = false := beq_eq_false_iff_ne.2 (fun e => hyq (str_inj HAB.out HQB.out (by rw [← hS1, ← hS2]; exact e)))
              have HNR : Aside0 (¬ isR (b.drop i)) := ⟨fun h => hyq (HD.out.2.2.1 h).2.2⟩
              clear hyq hS1 hS2 hl5 hq5 hb5 hr5 HWR t0 t1
              go_wp2_with fail
              go_quiet (fail)
              have HBD : Aside0 (Below wr.heap.size wr (w5.drewN nq)) := ⟨pw_below_drewN HB5.out _⟩
              go_wp2_with fail
              go_ret2
              exact HEND.out _ HNR.out HBD.out
          · have HNW := writeR_not hgd
            have HNR : Aside0 (¬ isR (b.drop i)) := ⟨fun h => hgd (HD.out.2.2.1 h).2.1⟩
            obtain ⟨er, her⟩ : ∃ er, er = (writeR (k, z)).2 := ⟨_, rfl⟩
            have hne : (er != 0) = true := by simpa [her] using HNW.2
            clear hgd
            go_wp2_with fail
            refine HWR.out.mono ?_
            rintro e w5 ⟨v5, rfl, hq5, hb5⟩
            rw [← her]
            rw [HNW.1] at hq5
            obtain ⟨A5, c5, rfl, _⟩ := hq5.form
            have HB5 := Aside0.mk (HBF.out.trans (hb5.mono HBF.out.size))
            clear hq5 hb5 HWR t0 t1 her HNW
            go_wp2_with fail
            go_quiet (fail)
            have HBD : Aside0 (Below wr.heap.size wr (w5.drewN nq)) := ⟨pw_below_drewN HB5.out _⟩
            go_wp2_with fail
            go_ret2
            exact HEND.out _ HNR.out HBD.out
        all_goals
          obtain ⟨wF, hwF⟩ : ∃ wF, wF = ((w3.setCell ⟨w2.heap.size, 0, none⟩ (.int .i64 k)).setCell ⟨w2.heap.size, 1, none⟩ (.slice A3 z.length d3)) := ⟨_, rfl⟩
          have h2 : (w2.alloc (.cells #[.int .i64 0, .slice none 0 0] 24)).drew.heap.size = w2.heap.size + 1 := by simp
          have ho3 := HO3.out
          rw [h2] at ho3
          have hhf : wF.heap[w2.heap.size]? = some (.cells #[.int .i64 k, .slice A3 z.length d3] 24 (0, 0)) := by rw [hwF, heap_set _ (heap_set _ HH3.out)]; rfl
          have HBF : Aside0 (Below wr.heap.size wr wF) := ⟨by rw [hwF]; exact (HB3r.out.setCell HB2.out.size _).setCell HB2.out.size _⟩
          have HOF : Aside0 (OB wF w.heap.size (.slice A3 z.length d3) z) := ⟨by
            rw [hwF]
            refine own_move (ho3.lower (Nat.le_succ_of_le (Nat.le_trans HB.out.size HB2.out.size))) (fun k' hk' => ?_)
            have hne : k' ≠ w2.heap.size := fun e => by have := own_base ho3 k' hk'; omega
            rw [Below.heap_setCell _ ⟨w2.heap.size, 1, none⟩ _ k' hne, Below.heap_setCell _ ⟨w2.heap.size, 0, none⟩ _ k' hne]⟩
          obtain ⟨p, hp⟩ : ∃ p, p = w2.heap.size := ⟨_, rfl⟩
          rw [← hwF]
          have HF0 := HF
          have HF := Aside0.mk hhf
          clear h2 ho3 hhf hwF HO3 HB3 HB3r HCP HKC HH3 t0 t1 r0 r1
          rw [← hp] at HF
          rw [← hp]
          clear hp
          obtain ⟨t0, t1, _, _⟩ := two_cells' HF.out
          have HWR := Aside0.mk (rwrite_calls wF (k, z) A3 d3 (QB.C (QB.of_OB HOF.out)) HZB.out)
          by_cases hgd : Rc.good (k, z)
          · have HV := writeR_good hgd
            rw [HV] at HWR
            have hal := Rc.all_bytes hgd HZB.out
            have hall := Rc.all_len (k, z)
            obtain ⟨y2, hy2⟩ : ∃ y2, y2 = Rc.all (k, z) := ⟨_, rfl⟩
            rw [← hy2] at HWR HD hal
            have HAB := Aside0.mk hal
            clear HV hal hall hy2
            go_wp2_with fail
            refine HWR.out.mono ?_
            rintro e w5 ⟨v5, rfl, hq5, hb5⟩
            dsimp only at hq5 ⊢
            obtain ⟨A5, c5, rfl, _, _, hr5⟩ := hq5.form
            have HR5 := Aside0.mk hr5
            have HB5 := Aside0.mk (HBF.out.trans (hb5.mono HBF.out.size))
            have HF5 := Aside0.mk (blk_keep HF.out hb5)
            have HO5 := Aside0.mk (HOF.out.below hb5)
            have HQ5 := Aside0.mk (Kd.C_below HCQ.out HB5.out)
            obtain ⟨S1, hS1⟩ : ∃ S1, S1 = strOfNums y2 := ⟨_, rfl⟩
            obtain ⟨S2, hS2⟩ : ∃ S2, S2 = strOfNums q := ⟨_, rfl⟩
            obtain ⟨l5, hl5⟩ : ∃ l5, l5 = y2.length := ⟨_, rfl⟩
            have cv1 : ∀ m, (convert 22 9 (.slice A5 l5 c5)).run Try.prog (w5.drewN m) = .ok (.string S1) (w5.drewN m) := fun m => by rw [hS1, hl5]; exact Kd.C_string Try.underlying22 Try.underlying5 Try.underlying9 (Kd.C_drewN HR5.out m)
            have cv2 : ∀ m, (convert 22 9 (.slice (some ad9) m7 c9)).run Try.prog (w5.drewN m) = .ok (.string S2) (w5.drewN m) := fun m => by rw [hS2]; exact Kd.C_string Try.underlying22 Try.underlying5 Try.underlying9 (Kd.C_drewN HQ5.out m)
            rw [← hl5]
            by_cases hyq : y2 = q
            · have n2 : (S1.toList == S2.toList) = true := by rw [hS1, hS2, hyq]; exact beq_self_eq_true _
              have HIS : Aside0 (isR (b.drop i)) := ⟨HD.out.2.2.2 ⟨by omega, hgd, hyq⟩⟩
              clear hyq hS1 hS2 hl5 hq5 hb5 hr5 HWR t0 t1
              go_wp2_with fail
              go_quiet (fail)
              obtain ⟨w6, hw6⟩ : ∃ w6, w6 = w5.drewN nq := ⟨_, rfl⟩
              have hb56 : Below w5.heap.size w5 w6 := by rw [hw6]; exact pw_below_drewN (Below.refl _ _) _
              have HB6 := Aside0.mk (HB5.out.trans (hb56.mono HB5.out.size))
              have hba : Below w6.heap.size w6 (w6.alloc (.cells #[.int .i64 k, .slice A3 z.length d3] 24)) := below_alloc (Below.refl _ _) _
              have HBW := Aside0.mk (below_alloc (HB.out.trans (HB6.out.mono HB.out.size)) (.cells #[.int .i64 k, .slice A3 z.length d3] 24))
              have HO6 := Aside0.mk ((HO5.out.below hb56).below hba)
              have HV6 := Aside0.mk ((HO.out.below HB6.out).below hba)
              obtain ⟨t0, t1, _, _⟩ := two_cells' (blk_keep HF5.out hb56)
              have HLN : Aside0 ((ls.map (·.2)).length ≤ 10000000000) := ⟨by
                have h1 := readL_len b 0
                rw [HM.out, List.length_append] at h1
                rw [List.length_map]
                omega⟩
              rw [← hw6]
              clear hw6 hb56 hba cv1 cv2 hcut9 hcut7
              go_wp2_with ((with_reducible refine gate_dst (N := 78) rfl ?_); at_builtin; refine app_rec w.heap.size rfl (.tmp 75) (.tmp 77) rfl (.slice A4 n4 c4) (ls.map (·.2)) (k, z) (.slice A3 z.length d3) w6.heap.size rfl rfl HV6.out (heap_alloc_new w6 _) HO6.out HBW.out.size HLN.out ?_; intro v8 w8 ho8 hg8 hk8; have HO8 := Aside0.mk ho8; have HB8 := Aside0.mk (HBW.out.grown hg8 HBW.out.size hk8); clear ho8 hg8 hk8)
              go_roundw
              case rel =>
                refine ⟨e7, ls ++ [(e7, (k, z))], by have := HF0.out; omega, by go_num, HB8, ⟨by rw [List.map_append]; exact HO8.out⟩, ⟨?_⟩, ⟨by rw [endL_snoc]⟩⟩
                have hF := HF0.out
                rw [HM.out, readL_yes HIS.out, HD.out.1, HD.out.2.1, List.drop_drop, show i + (7 + N) = e7 by omega, List.append_assoc]
                rfl
              case measure => have := HF0.out; simp [intOf]; omega
            · have n2 : (S1.toList == S2.toList) = false := beq_eq_false_iff_ne.2 (fun e => hyq (str_inj HAB.out HQB.out (by rw [← hS1, ← hS2]; exact e)))
              have HNR : Aside0 (¬ isR (b.drop i)) := ⟨fun h => hyq (HD.out.2.2.1 h).2.2⟩
              clear hyq hS1 hS2 hl5 hq5 hb5 hr5 HWR t0 t1
              go_wp2_with fail
              go_quiet (fail)
              have HBD : Aside0 (Below wr.heap.size wr (w5.drewN nq)) := ⟨pw_below_drewN HB5.out _⟩
              go_wp2_with fail
              go_ret2
              exact HEND.out _ HNR.out HBD.out
          · have HNW := writeR_not hgd
            have HNR : Aside0 (¬ isR (b.drop i)) := ⟨fun h => hgd (HD.out.2.2.1 h).2.1⟩
            obtain ⟨er, her⟩ : ∃ er, er = (writeR (k, z)).2 := ⟨_, rfl⟩
            have hne : (er != 0) = true := by simpa [her] using HNW.2
            clear hgd
            go_wp2_with fail
            refine HWR.out.mono ?_
            rintro e w5 ⟨v5, rfl, hq5, hb5⟩
            rw [← her]
            rw [HNW.1] at hq5
            obtain ⟨A5, c5, rfl, _⟩ := hq5.form
            have HB5 := Aside0.mk (HBF.out.trans (hb5.mono HBF.out.size))
            clear hq5 hb5 HWR t0 t1 her HNW
            go_wp2_with fail
            go_quiet (fail)
            have HBD : Aside0 (Below wr.heap.size wr (w5.drewN nq)) := ⟨pw_below_drewN HB5.out _⟩
            go_wp2_with fail
            go_ret2
            exact HEND.out _ HNR.out HBD.out
end Go.Proofs.Ytcnohnieoecpdaa.Oct
