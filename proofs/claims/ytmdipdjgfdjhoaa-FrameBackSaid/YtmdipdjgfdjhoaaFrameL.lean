import Derived.Test.YtmdipdjgfdjhoaaFrameH
namespace Go.Proofs.Ytmdipdjgfdjhoaa.Oct
open Go.RowKit Go.Proofs.YtmdipdjgfdjhoaaW.PrintWords Go.Proofs.Ytmdipdjgfdjhoaa.M
set_option linter.unusedVariables false
set_option linter.unusedSimpArgs false
set_option maxHeartbeats 8000000 in
theorem fback_calls (w : World) (f : FR) (A : Option Addr) (c : Nat) (B : Option Addr) (d : Nat) (bs : List Int) (hr : Kd.C (Kd.int .u8) w A f.d.length f.d) (ho : f.ok) (hm : Kd.C (Kd.int .u8) w B bs.length bs) (hmb : Bytes bs) (hd : bs.length ≤ d) :
    Calls Try.prog 5 #[.agg #[.int .u32 f.s, .int .i64 f.q, .int .i64 f.k, .slice A f.d.length c], .slice B bs.length d] w (Yes w) := by
  have HR := Aside0.mk hr
  have HO := Aside0.mk ho
  have HM := Aside0.mk hm
  have HMB := Aside0.mk hmb
  have HD := Aside0.mk hd
  have hl : f.d.length ≤ 9223372036854775807 := hr.2.1
  have hml : bs.length ≤ 9223372036854775807 := hm.2.1
  have HBX : Aside0 (Below w.heap.size w (w.alloc (frC f A c))) := ⟨below_alloc (Below.refl _ _) _⟩
  have HHX : Aside0 ((w.alloc (frC f A c)).heap[w.heap.size]? = some (.cells #[.int .u32 f.s, .int .i64 f.q, .int .i64 f.k, .slice A f.d.length c] 25 (0, 0))) := ⟨heap_alloc_new w _⟩
  have HP : Aside0 (f.mayP → f.write = (f.all, 0)) := ⟨FR.write_all⟩
  have HN : Aside0 (¬ f.mayP → f.write = ([], 70)) := ⟨FR.write_bad⟩
  have HZ : Aside0 (¬ (readF bs).2 = 0 → readF bs = (FR.zero, (readF bs).2)) := ⟨fun h => Prod.ext (readF_err h) rfl⟩
  have HG : Aside0 ((readF bs).2 = 0 → ∃ g : FR, readF bs = (g, 0) ∧ g.ok ∧ g.write = (bs, 0)) := ⟨fun h => ⟨_, Prod.ext rfl h, readF_ok hmb, write_readF hmb h⟩⟩
  clear hr ho hm hmb hd
  have hlen : 2000 < (f.d.length : Int) ∨ (¬ 2000 < (f.d.length : Int) ∧ 2000 < (bs.length : Int)) ∨ (¬ 2000 < (f.d.length : Int) ∧ ¬ 2000 < (bs.length : Int)) := by omega
  rcases hlen with h2 | ⟨h2, h3⟩ | ⟨h2, h3⟩
  · go_enter Try.func5, Try.ntmps5
    go_wp2_with fail
    refine (falive_calls _).mono ?_
    rintro e wa ⟨rfl, hba⟩
    have HBA := Aside0.mk (HBX.out.trans (hba.mono HBX.out.size))
    clear hba
    go_wp2_with fail
    go_ret
    exact ⟨rfl, HBA.out⟩
  · go_enter Try.func5, Try.ntmps5
    go_wp2_with fail
    refine (falive_calls _).mono ?_
    rintro e wa ⟨rfl, hba⟩
    have HBA := Aside0.mk (HBX.out.trans (hba.mono HBX.out.size))
    clear hba
    go_wp2_with fail
    go_ret
    exact ⟨rfl, HBA.out⟩
  · have hf2 : (f.d.length : Int) ≤ 2000 := by omega
    have hg2 : (bs.length : Int) ≤ 2000 := by omega
    clear h2 h3
    by_cases hp : f.mayP
    · have HW := Aside0.mk (HP.out hp)
      have HAB := Aside0.mk (FR.all_bytes HO.out)
      have HRA := Aside0.mk (readF_all hp HO.out)
      clear hp
      obtain ⟨xs, hxs⟩ : ∃ xs, xs = f.all := ⟨_, rfl⟩
      rw [← hxs] at HW HAB HRA
      clear hxs
      go_enter Try.func5, Try.ntmps5
      go_wp2_with fail
      refine (fwrite_calls _ f A c (Kd.C_below HR.out HBX.out) HO.out).mono ?_
      rw [HW.out]
      rintro e w1 ⟨v, rfl, hq, hb⟩
      have HB1 := Aside0.mk (HBX.out.trans (hb.mono HBX.out.size))
      have HH1 := Aside0.mk (blk_keep HHX.out hb)
      obtain ⟨A1, c1, rfl, hle, _, hr⟩ := hq.form
      have HR1 := Aside0.mk hr
      have HLE : Aside0 (xs.length ≤ c1) := ⟨hle⟩
      clear hb hq hr hle
      go_wp2_with fail
      refine (fread_calls _ A1 c1 xs HR1.out HAB.out HLE.out).mono ?_
      rw [HRA.out]
      rintro e w3 ⟨A3, c3, rfl, ho3, hb3⟩
      have HB3 := Aside0.mk (HB1.out.trans (hb3.mono HB1.out.size))
      have hbx := below_alloc (Below.refl w3.heap.size w3) (.cells #[.int .u32 f.s, .int .i64 f.q, .int .i64 f.k, .slice A3 f.d.length c3] 25)
      have hh4 := blk_keep (blk_keep HH1.out hb3) hbx
      obtain ⟨t0, t1, t2, t3, r0, r1, r2, r3⟩ := four_cells hh4
      have HB4 := Aside0.mk (HB3.out.trans (hbx.mono HB3.out.size))
      obtain ⟨_, _, e3, hr3⟩ := ho3.reads
      cases e3
      have HR4 := Aside0.mk (Kd.C_below hr3 hbx)
      clear ho3 hb3 hbx hr3 hh4
      go_wp2_with fail
      refine (same_calls _ f f A A3 c c3 (Kd.C_below HR.out HB4.out) HR4.out HO.out.2.2.2 HO.out.2.2.2).mono ?_
      rw [same_self]
      rintro e wT ⟨rfl, hb5⟩
      have HBT := Aside0.mk (HB4.out.trans (hb5.mono HB4.out.size))
      clear hb5 t0 t1 t2 t3 r0 r1 r2 r3
      go_wp2_with fail
      refine (fread_calls _ B d bs (Kd.C_below HM.out HBT.out) HMB.out HD.out).mono ?_
      by_cases hz : (readF bs).2 = 0
      · obtain ⟨g, hg, hgo, hgw⟩ := HG.out hz
        have HGO := Aside0.mk hgo
        have HGW := Aside0.mk hgw
        have HRG := Aside0.mk hg
        clear hz hg hgo hgw
        rw [HRG.out]
        rintro e w6 ⟨A6, c6, rfl, ho6, hb6⟩
        have HB6 := Aside0.mk (HBT.out.trans (hb6.mono HBT.out.size))
        have hbx := below_alloc (Below.refl w6.heap.size w6) (frC g A6 c6)
        have HB7 := Aside0.mk (HB6.out.trans (hbx.mono HB6.out.size))
        obtain ⟨_, _, e6, hr6⟩ := ho6.reads
        cases e6
        have HR7 := Aside0.mk (Kd.C_below hr6 hbx)
        clear ho6 hb6 hbx hr6
        go_wp2_with fail
        refine (fwrite_calls _ g A6 c6 HR7.out HGO.out).mono ?_
        rw [HGW.out]
        rintro e w8 ⟨v, rfl, hq, hb⟩
        have HB8 := Aside0.mk (HB7.out.trans (hb.mono HB7.out.size))
        have HQ8 := Aside0.mk hq
        obtain ⟨A8, c8, rfl, _⟩ := hq.form
        clear hb hq
        go_wp2_with fail
        refine (falive_calls _).mono ?_
        rintro e wa ⟨rfl, hba⟩
        have HBA := Aside0.mk (HB8.out.trans (hba.mono HB8.out.size))
        have s1 := (HQ8.out.below hba).string
        have s2 := C_str (c := d) (Kd.C_below HM.out HBA.out)
        obtain ⟨S, hS⟩ : ∃ S, S = strOfNums bs := ⟨_, rfl⟩
        rw [← hS] at s1 s2
        have hE : (S.toList == S.toList) = true := beq_self_eq_true _
        clear hba hS
        go_wp2_with fail
        go_ret
        exact ⟨rfl, HBA.out⟩
      · have HRZ := Aside0.mk (HZ.out hz)
        obtain ⟨er, her⟩ : ∃ er, er = (readF bs).2 := ⟨_, rfl⟩
        rw [← her] at HRZ hz
        have hne : (er != 0) = true := by simpa using hz
        clear hz her
        rw [HRZ.out]
        rintro e w6 ⟨A6, c6, rfl, _, hb6⟩
        have HB6 := Aside0.mk (HBT.out.trans (hb6.mono HBT.out.size))
        clear hb6
        dsimp only [FR.zero, List.length_nil]
        go_wp2_with fail
        refine (falive_calls _).mono ?_
        rintro e w7 ⟨rfl, hb7⟩
        have HH7 := Aside0.mk (blk_keep (heap_alloc_new w6 (.cells #[.int .u32 0, .int .i64 0, .int .i64 0, .slice A6 0 c6] 25)) hb7)
        have hba := below_alloc HB6.out (.cells #[.int .u32 0, .int .i64 0, .int .i64 0, .slice A6 0 c6] 25)
        have HB7 := Aside0.mk (hba.trans (hb7.mono hba.size))
        clear hb7 hba
        obtain ⟨t0, t1, t2, t3, r0, r1, r2, r3⟩ := four_cells HH7.out
        go_wp2_with fail
        refine (same_calls _ FR.zero FR.zero A6 none c6 0 ⟨rfl, by decide, fun h => absurd h (by decide)⟩ (Kd.C_nil _ _) Bytes.nil Bytes.nil).mono ?_
        rw [same_self]
        rintro e w8 ⟨rfl, hb8⟩
        have HB8 := Aside0.mk (HB7.out.trans (hb8.mono HB7.out.size))
        clear hb8
        go_wp2_with fail
        go_ret
        exact ⟨rfl, HB8.out⟩
    · have HW := Aside0.mk (HN.out hp)
      clear hp
      go_enter Try.func5, Try.ntmps5
      go_wp2_with fail
      refine (fwrite_calls _ f A c (Kd.C_below HR.out HBX.out) HO.out).mono ?_
      rw [HW.out]
      rintro e wT ⟨v, rfl, hq, hb⟩
      have HBT := Aside0.mk (HBX.out.trans (hb.mono HBX.out.size))
      obtain ⟨A1, c1, rfl, _⟩ := hq.form
      clear hb hq
      go_wp2_with fail
      refine (fread_calls _ B d bs (Kd.C_below HM.out HBT.out) HMB.out HD.out).mono ?_
      by_cases hz : (readF bs).2 = 0
      · obtain ⟨g, hg, hgo, hgw⟩ := HG.out hz
        have HGO := Aside0.mk hgo
        have HGW := Aside0.mk hgw
        have HRG := Aside0.mk hg
        clear hz hg hgo hgw
        rw [HRG.out]
        rintro e w6 ⟨A6, c6, rfl, ho6, hb6⟩
        have HB6 := Aside0.mk (HBT.out.trans (hb6.mono HBT.out.size))
        have hbx := below_alloc (Below.refl w6.heap.size w6) (frC g A6 c6)
        have HB7 := Aside0.mk (HB6.out.trans (hbx.mono HB6.out.size))
        obtain ⟨_, _, e6, hr6⟩ := ho6.reads
        cases e6
        have HR7 := Aside0.mk (Kd.C_below hr6 hbx)
        clear ho6 hb6 hbx hr6
        go_wp2_with fail
        refine (fwrite_calls _ g A6 c6 HR7.out HGO.out).mono ?_
        rw [HGW.out]
        rintro e w8 ⟨v, rfl, hq, hb⟩
        have HB8 := Aside0.mk (HB7.out.trans (hb.mono HB7.out.size))
        have HQ8 := Aside0.mk hq
        obtain ⟨A8, c8, rfl, _⟩ := hq.form
        clear hb hq
        go_wp2_with fail
        refine (falive_calls _).mono ?_
        rintro e wa ⟨rfl, hba⟩
        have HBA := Aside0.mk (HB8.out.trans (hba.mono HB8.out.size))
        have s1 := (HQ8.out.below hba).string
        have s2 := C_str (c := d) (Kd.C_below HM.out HBA.out)
        obtain ⟨S, hS⟩ : ∃ S, S = strOfNums bs := ⟨_, rfl⟩
        rw [← hS] at s1 s2
        have hE : (S.toList == S.toList) = true := beq_self_eq_true _
        clear hba hS
        go_wp2_with fail
        go_ret
        exact ⟨rfl, HBA.out⟩
      · have HRZ := Aside0.mk (HZ.out hz)
        obtain ⟨er, her⟩ : ∃ er, er = (readF bs).2 := ⟨_, rfl⟩
        rw [← her] at HRZ hz
        have hne : (er != 0) = true := by simpa using hz
        clear hz her
        rw [HRZ.out]
        rintro e w6 ⟨A6, c6, rfl, _, hb6⟩
        have HB6 := Aside0.mk (HBT.out.trans (hb6.mono HBT.out.size))
        clear hb6
        dsimp only [FR.zero, List.length_nil]
        go_wp2_with fail
        refine (falive_calls _).mono ?_
        rintro e w7 ⟨rfl, hb7⟩
        have HH7 := Aside0.mk (blk_keep (heap_alloc_new w6 (.cells #[.int .u32 0, .int .i64 0, .int .i64 0, .slice A6 0 c6] 25)) hb7)
        have hba := below_alloc HB6.out (.cells #[.int .u32 0, .int .i64 0, .int .i64 0, .slice A6 0 c6] 25)
        have HB7 := Aside0.mk (hba.trans (hb7.mono hba.size))
        clear hb7 hba
        obtain ⟨t0, t1, t2, t3, r0, r1, r2, r3⟩ := four_cells HH7.out
        go_wp2_with fail
        refine (same_calls _ FR.zero FR.zero A6 none c6 0 ⟨rfl, by decide, fun h => absurd h (by decide)⟩ (Kd.C_nil _ _) Bytes.nil Bytes.nil).mono ?_
        rw [same_self]
        rintro e w8 ⟨rfl, hb8⟩
        have HB8 := Aside0.mk (HB7.out.trans (hb8.mono HB7.out.size))
        clear hb8
        go_wp2_with fail
        go_ret
        exact ⟨rfl, HB8.out⟩
end Go.Proofs.Ytmdipdjgfdjhoaa.Oct
