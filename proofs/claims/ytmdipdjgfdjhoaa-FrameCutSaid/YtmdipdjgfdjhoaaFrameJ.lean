import Derived.Test.YtmdipdjgfdjhoaaFrameH
namespace Go.Proofs.Ytmdipdjgfdjhoaa.Oct
open Go.RowKit Go.Proofs.YtmdipdjgfdjhoaaW.PrintWords Go.Proofs.Ytmdipdjgfdjhoaa.M
set_option linter.unusedVariables false
set_option linter.unusedSimpArgs false
set_option maxHeartbeats 8000000 in
theorem fcut_calls (w : World) (f : FR) (A : Option Addr) (c : Nat) (i : Int) (B : Option Addr) (d : Nat) (ms : List Int) (hr : Kd.C (Kd.int .u8) w A f.d.length f.d) (ho : f.ok) (hi : -9223372036854775808 ≤ i ∧ i ≤ 9223372036854775807) (hm : Kd.C (Kd.int .u8) w B ms.length ms) (hmb : Bytes ms) :
    Calls Try.prog 7 #[.agg #[.int .u32 f.s, .int .i64 f.q, .int .i64 f.k, .slice A f.d.length c], .int .i64 i, .slice B ms.length d] w (Yes w) := by
  have HR := Aside0.mk hr
  have HO := Aside0.mk ho
  have HM := Aside0.mk hm
  have HMB := Aside0.mk hmb
  have hl : f.d.length ≤ 9223372036854775807 := hr.2.1
  have hml : ms.length ≤ 9223372036854775807 := hm.2.1
  have HBX : Aside0 (Below w.heap.size w (w.alloc (frC f A c))) := ⟨below_alloc (Below.refl _ _) _⟩
  have HP : Aside0 (f.mayP → f.write = (f.all, 0)) := ⟨FR.write_all⟩
  have HN : Aside0 (¬ f.mayP → f.write = ([], 70)) := ⟨FR.write_bad⟩
  clear hr ho hm hmb
  have hlen : 2000 < (f.d.length : Int) ∨ (¬ 2000 < (f.d.length : Int) ∧ 300 < (ms.length : Int)) ∨ (¬ 2000 < (f.d.length : Int) ∧ ¬ 300 < (ms.length : Int)) := by omega
  rcases hlen with h2 | ⟨h2, h3⟩ | ⟨h2, h3⟩
  · clear hi
    go_enter Try.func7, Try.ntmps7
    go_wp2_with fail
    refine (falive_calls _).mono ?_
    rintro e wa ⟨rfl, hba⟩
    have HBA := Aside0.mk (HBX.out.trans (hba.mono HBX.out.size))
    clear hba
    go_wp2_with fail
    go_ret
    exact ⟨rfl, HBA.out⟩
  · clear hi
    go_enter Try.func7, Try.ntmps7
    go_wp2_with fail
    refine (falive_calls _).mono ?_
    rintro e wa ⟨rfl, hba⟩
    have HBA := Aside0.mk (HBX.out.trans (hba.mono HBX.out.size))
    clear hba
    go_wp2_with fail
    go_ret
    exact ⟨rfl, HBA.out⟩
  · by_cases hp : f.mayP
    · have HW := Aside0.mk (HP.out hp)
      have HMP := Aside0.mk hp
      obtain ⟨hi0, hi1⟩ := hi
      clear hp
      have hd2 : (f.d.length : Int) ≤ 2000 := by omega
      have hm2 : (ms.length : Int) ≤ 300 := by omega
      clear h2 h3
      have hcase : i < 0 ∨ (0 ≤ i ∧ (f.all.length : Int) ≤ i) ∨ (0 ≤ i ∧ i < (f.all.length : Int)) := by omega
      have HAB := Aside0.mk (FR.all_bytes HO.out)
      have HT : Aside0 (∀ n, n < f.all.length → readF (f.all.take n) = (FR.zero, 11)) := ⟨fun n hn => readF_cut HMP.out hn⟩
      have HMO : Aside0 (0 < ms.length → readF (f.all ++ ms) = (FR.zero, 2)) := ⟨fun h => readF_more HMP.out h⟩
      have HAL : Aside0 (0 < f.all.length ∧ f.all.length ≤ 3000) := ⟨by rw [FR.all_len]; omega⟩
      obtain ⟨xs, hxs⟩ : ∃ xs, xs = f.all := ⟨_, rfl⟩
      rw [← hxs] at HW hcase HAB HT HAL HMO
      clear hxs
      go_enter Try.func7, Try.ntmps7
      go_wp2_with fail
      refine (fwrite_calls _ f A c (Kd.C_below HR.out HBX.out) HO.out).mono ?_
      rw [HW.out]
      rintro e w1 ⟨v, rfl, hq, hb⟩
      have HB1 := Aside0.mk (HBX.out.trans (hb.mono HBX.out.size))
      obtain ⟨A1, c1, rfl, hle, hcm, hr⟩ := hq.form
      obtain ⟨_, g, off, rfl, hg⟩ := hq.pos HAL.out.1
      have HQ := Aside0.mk hq
      have hle : xs.length ≤ c1 := hle
      have hlc : (xs.length : Int) ≤ (c1 : Int) := by omega
      clear hb hq hr hle hcm hg
      by_cases hms : 0 < (ms.length : Int)
      · have HRM := Aside0.mk (HMO.out (by omega))
        go_wp2_with fail
        refine (copy_calls _ (some ⟨g, off, none⟩) c1 xs HQ.out.C (by have := HAL.out; omega)).mono ?_
        rintro e w2 ⟨v2, rfl, ho2, hb2⟩
        obtain ⟨A2, c2, rfl, _⟩ := ho2.reads
        have HQ2 := Aside0.mk (QB.of_OB ho2)
        have HQ1 := Aside0.mk (HQ.out.below hb2)
        have HS12 := Aside0.mk hb2.size
        have HB2 := Aside0.mk (HB1.out.trans (hb2.mono HB1.out.size))
        have HM2 := Aside0.mk (Kd.C_below HM.out HB2.out)
        have HXM : Aside0 (xs.length + ms.length ≤ 140737488355328) := ⟨by have := HAL.out; omega⟩
        clear ho2 hb2
        obtain ⟨zs, hzs⟩ : ∃ zs, zs = xs ++ ms := ⟨_, rfl⟩
        rw [← hzs] at HRM
        have HZS := Aside0.mk hzs
        have HZB : Aside0 (Bytes zs) := ⟨by rw [hzs]; exact HAB.out.append HMB.out⟩
        clear hzs
        go_wp2_with ((with_reducible refine gate_dst (N := 38) rfl ?_); at_builtin; refine app_q w1.heap.size rfl (.tmp 36) (.tmp 37) rfl (.slice A2 xs.length c2) xs ms B ms.length d rfl rfl rfl HQ2.out HM2.out HS12.out HXM.out ?_; intro v3 w3 ho3 hg3 _; rw [← HZS.out] at ho3; have HO3 := Aside0.mk ho3; have HG3 := Aside0.mk hg3; clear ho3 hg3; obtain ⟨A3, c3, rfl, hle3, _, hr3⟩ := HO3.out.form; have HR3 := Aside0.mk hr3; have HLE3 := Aside0.mk hle3; clear hr3 hle3)
        have HB3 := Aside0.mk (HB2.out.grown HG3.out HB2.out.size (fun k hk => Nat.le_trans HB1.out.size (HQ2.out.block hk).1))
        have HQ3 := Aside0.mk (HQ1.out.move (fun k hk => HG3.out.block k (HQ1.out.block hk).2 (fun e => by
          have h1 := (HQ.out.block hk).2
          have h2 := (HQ2.out.block e.symm).1
          omega)))
        (with_reducible refine (fread_at _ A3 zs.length c3 zs rfl HR3.out HZB.out HLE3.out).mono ?_)
        rw [HRM.out]
        rintro e w4 ⟨A4, c4, rfl, _, hb4⟩
        have HQ4 := Aside0.mk (HQ3.out.below hb4)
        have HB4 := Aside0.mk (HB3.out.trans (hb4.mono HB3.out.size))
        clear hb4
        dsimp only [FR.zero, List.length_nil]
        rcases hcase with h | ⟨h, h'⟩ | ⟨h, h'⟩
        · go_wp2_with fail
          obtain ⟨wT, hwT⟩ : ∃ wT, wT = w4.alloc (.cells #[.int .u32 0, .int .i64 0, .int .i64 0, .slice A4 0 c4] 25) := ⟨_, rfl⟩
          rw [← hwT]
          have hbx : Below w4.heap.size w4 wT := by rw [hwT]; exact below_alloc (Below.refl _ _) _
          have HBT := Aside0.mk (HB4.out.trans (hbx.mono HB4.out.size))
          have HQT := Aside0.mk (HQ4.out.below hbx)
          clear hwT hbx
          refine (falive_calls _).mono ?_
          rintro e wa ⟨rfl, hba⟩
          have HBA := Aside0.mk (HBT.out.trans (hba.mono HBT.out.size))
          clear hba
          go_wp2_with fail
          go_ret
          exact ⟨rfl, HBA.out⟩
        · go_wp2_with fail
          obtain ⟨wT, hwT⟩ : ∃ wT, wT = w4.alloc (.cells #[.int .u32 0, .int .i64 0, .int .i64 0, .slice A4 0 c4] 25) := ⟨_, rfl⟩
          rw [← hwT]
          have hbx : Below w4.heap.size w4 wT := by rw [hwT]; exact below_alloc (Below.refl _ _) _
          have HBT := Aside0.mk (HB4.out.trans (hbx.mono HB4.out.size))
          have HQT := Aside0.mk (HQ4.out.below hbx)
          clear hwT hbx
          refine (falive_calls _).mono ?_
          rintro e wa ⟨rfl, hba⟩
          have HBA := Aside0.mk (HBT.out.trans (hba.mono HBT.out.size))
          clear hba
          go_wp2_with fail
          go_ret
          exact ⟨rfl, HBA.out⟩
        · obtain ⟨n, rfl⟩ := Int.eq_ofNat_of_zero_le h
          have hn : n < xs.length := by omega
          have hnl : (n : Int) ≤ (xs.length : Int) := by omega
          have hnc : (n : Int) ≤ (c1 : Int) := by omega
          have HNL : Aside0 (n = (xs.take n).length) := ⟨by rw [List.length_take]; omega⟩
          have HRT := Aside0.mk (HT.out n hn)
          have HTB := Aside0.mk (HAB.out.take n)
          have HNC : Aside0 ((xs.take n).length ≤ c1) := ⟨by rw [List.length_take]; omega⟩
          go_wp2_with fail
          obtain ⟨wT, hwT⟩ : ∃ wT, wT = w4.alloc (.cells #[.int .u32 0, .int .i64 0, .int .i64 0, .slice A4 0 c4] 25) := ⟨_, rfl⟩
          rw [← hwT]
          have hbx : Below w4.heap.size w4 wT := by rw [hwT]; exact below_alloc (Below.refl _ _) _
          have HBT := Aside0.mk (HB4.out.trans (hbx.mono HB4.out.size))
          have HQT := Aside0.mk (HQ4.out.below hbx)
          clear hwT hbx
          have hC := C_take HQT.out.C n (Nat.le_of_lt hn)
          rw [HNL.out] at hC
          rw [← HNL.out] at hC
          refine (fread_at _ (some ⟨g, off, none⟩) n c1 (xs.take n) HNL.out (by have := HNL.out; rw [← this]; exact hC) HTB.out HNC.out).mono ?_
          rw [HRT.out]
          rintro e w5 ⟨A5, c5, rfl, _, hb5⟩
          have HB5 := Aside0.mk (HBT.out.trans (hb5.mono HBT.out.size))
          clear hb5 hC
          dsimp only [FR.zero, List.length_nil]
          go_wp2_with fail
          refine (falive_calls _).mono ?_
          rintro e wa ⟨rfl, hba⟩
          have hbx := below_alloc HB5.out (.cells #[.int .u32 0, .int .i64 0, .int .i64 0, .slice A5 0 c5] 25)
          have HBA := Aside0.mk (hbx.trans (hba.mono hbx.size))
          clear hba hbx
          go_wp2_with fail
          go_ret
          exact ⟨rfl, HBA.out⟩
      · skip
        rcases hcase with h | ⟨h, h'⟩ | ⟨h, h'⟩
        · go_wp2_with fail
          have HBT := HB1
          have HQT := HQ
          refine (falive_calls _).mono ?_
          rintro e wa ⟨rfl, hba⟩
          have HBA := Aside0.mk (HBT.out.trans (hba.mono HBT.out.size))
          clear hba
          go_wp2_with fail
          go_ret
          exact ⟨rfl, HBA.out⟩
        · go_wp2_with fail
          have HBT := HB1
          have HQT := HQ
          refine (falive_calls _).mono ?_
          rintro e wa ⟨rfl, hba⟩
          have HBA := Aside0.mk (HBT.out.trans (hba.mono HBT.out.size))
          clear hba
          go_wp2_with fail
          go_ret
          exact ⟨rfl, HBA.out⟩
        · obtain ⟨n, rfl⟩ := Int.eq_ofNat_of_zero_le h
          have hn : n < xs.length := by omega
          have hnl : (n : Int) ≤ (xs.length : Int) := by omega
          have hnc : (n : Int) ≤ (c1 : Int) := by omega
          have HNL : Aside0 (n = (xs.take n).length) := ⟨by rw [List.length_take]; omega⟩
          have HRT := Aside0.mk (HT.out n hn)
          have HTB := Aside0.mk (HAB.out.take n)
          have HNC : Aside0 ((xs.take n).length ≤ c1) := ⟨by rw [List.length_take]; omega⟩
          go_wp2_with fail
          have HBT := HB1
          have HQT := HQ
          have hC := C_take HQT.out.C n (Nat.le_of_lt hn)
          rw [HNL.out] at hC
          rw [← HNL.out] at hC
          refine (fread_at _ (some ⟨g, off, none⟩) n c1 (xs.take n) HNL.out (by have := HNL.out; rw [← this]; exact hC) HTB.out HNC.out).mono ?_
          rw [HRT.out]
          rintro e w5 ⟨A5, c5, rfl, _, hb5⟩
          have HB5 := Aside0.mk (HBT.out.trans (hb5.mono HBT.out.size))
          clear hb5 hC
          dsimp only [FR.zero, List.length_nil]
          go_wp2_with fail
          refine (falive_calls _).mono ?_
          rintro e wa ⟨rfl, hba⟩
          have hbx := below_alloc HB5.out (.cells #[.int .u32 0, .int .i64 0, .int .i64 0, .slice A5 0 c5] 25)
          have HBA := Aside0.mk (hbx.trans (hba.mono hbx.size))
          clear hba hbx
          go_wp2_with fail
          go_ret
          exact ⟨rfl, HBA.out⟩
    · have HW := Aside0.mk (HN.out hp)
      clear hp hi
      go_enter Try.func7, Try.ntmps7
      go_wp2_with fail
      refine (fwrite_calls _ f A c (Kd.C_below HR.out HBX.out) HO.out).mono ?_
      rw [HW.out]
      rintro e w1 ⟨v, rfl, hq, hb⟩
      have HB1 := Aside0.mk (HBX.out.trans (hb.mono HBX.out.size))
      obtain ⟨A1, c1, rfl, _⟩ := hq.form
      clear hb hq
      go_wp2_with fail
      refine (falive_calls _).mono ?_
      rintro e wa ⟨rfl, hba⟩
      have HBA := Aside0.mk (HB1.out.trans (hba.mono HB1.out.size))
      clear hba
      go_wp2_with fail
      go_ret
      exact ⟨rfl, HBA.out⟩
end Go.Proofs.Ytmdipdjgfdjhoaa.Oct
