import Derived.Test.YtpkclecgaheplaaRTmS
/- alive04. -/
namespace Go.Proofs.YtpkclecgaheplaaR.Oct
open Go.RowKit Go.Proofs.YtpkclecgaheplaaRW.PrintWords Go.Proofs.YtpkclecgaheplaaR.M
set_option linter.unusedVariables false
set_option linter.unusedSimpArgs false
abbrev refM : Mg := ⟨13, 0, 0, 0, false, 0, 0⟩
set_option maxRecDepth 20000 in
set_option maxHeartbeats 4000000 in
theorem talive_calls (w : World) : Calls Try.prog 4 #[] w fun e w' => e = .returned (.bool true) ∧ Below w.heap.size w w' := by
  have HR : Aside0 refM.right := ⟨.inr (.inl ⟨rfl, rfl, rfl, rfl, rfl, rfl, rfl⟩)⟩
  have HO : Aside0 refM.ok := ⟨by unfold Mg.ok; decide⟩
  obtain ⟨bs, hbs⟩ : ∃ bs, bs = refM.bytes := ⟨_, rfl⟩
  have HBL : Aside0 (bs.length = 4) := ⟨by rw [hbs]; rfl⟩
  have HBB : Aside0 (Bytes bs) := ⟨by rw [hbs]; exact Mg.bytes_bytes HR.out⟩
  have HPW : Aside0 (∀ W, Calls Try.prog 6 #[mgV refM] W (fun e w' => ∃ A c, e = .returned (.tuple #[.slice A 4 c, .int .i64 0]) ∧ QB w' W.heap.size (.slice A 4 c) bs ∧ Below W.heap.size W w')) := ⟨fun W => by
    have := pwrite_calls W refM HR.out HO.out
    unfold RetPW at this
    rw [← hbs, HBL.out] at this
    exact this⟩
  have HFO : Aside0 ((FR.mk 1 0 0 bs).ok ∧ (FR.mk 1 0 0 bs).mayP) := ⟨⟨⟨by dsimp only; omega, by dsimp only; omega⟩, ⟨by dsimp only; omega, by dsimp only; omega⟩, ⟨by dsimp only; omega, by dsimp only; omega⟩, HBB.out⟩, by unfold FR.mayP; dsimp only; rw [HBL.out]; omega⟩
  have HFA : Aside0 ((FR.mk 1 0 0 bs).all.length = 18 ∧ Bytes (FR.mk 1 0 0 bs).all) := ⟨by rw [FR.all_len]; show 14 + bs.length = 18; rw [HBL.out], FR.all_bytes HFO.out.1⟩
  obtain ⟨fs, hfs⟩ : ∃ fs, fs = (FR.mk 1 0 0 bs).all := ⟨_, rfl⟩
  have HFW : Aside0 (∀ W A c, Kd.C (Kd.int .u8) W A bs.length bs → Calls Try.prog 7 #[.agg #[.int .u32 1, .int .i64 0, .int .i64 0, .slice A 4 c]] W (fun e w' => ∃ A1 c1, e = .returned (.tuple #[.slice A1 18 c1, .int .i64 0]) ∧ QB w' W.heap.size (.slice A1 18 c1) fs ∧ Below W.heap.size W w')) := ⟨fun W A c h => by
    have := fwrite_calls W (FR.mk 1 0 0 bs) A c h HFO.out.1
    rw [FR.write_all HFO.out.2, ← hfs] at this
    dsimp only at this
    rw [HBL.out] at this
    refine this.mono ?_
    rintro e w' ⟨v, rfl, hq, hb⟩
    have hq : QB w' W.heap.size v fs := hq
    have hl : fs.length = 18 := by rw [hfs]; exact HFA.out.1
    obtain ⟨A1, c1, rfl, _⟩ := hq.form
    rw [hl] at hq ⊢
    exact ⟨A1, c1, rfl, hq, hb⟩⟩
  have HFL : Aside0 (fs.length = 18 ∧ Bytes fs) := ⟨by rw [hfs]; exact HFA.out⟩
  clear hbs hfs
  go_enter Try.func4, Try.ntmps4
  go_wp2_with fail
  refine (pnew_at _).mono ?_
  rintro e w1 ⟨rfl, hp1, hb1⟩
  obtain ⟨p, hp⟩ : ∃ p, p = w.heap.size := ⟨_, rfl⟩
  rw [← hp] at hp1 ⊢
  have HP1 := Aside0.mk hp1
  have HB1 := Aside0.mk hb1
  have HPP := Aside0.mk hp
  clear hp1 hb1 hp
  go_wp2_with fail
  refine (HPW.out _).mono ?_
  rintro e w2 ⟨A2, c2, rfl, hq2, hb2⟩
  have HP2 := Aside0.mk (HP1.out.below hb2)
  have HB2 := Aside0.mk (HB1.out.trans (hb2.mono HB1.out.size))
  have HQ2 := Aside0.mk hq2
  clear hb2 hq2
  go_wp2_with fail
  refine (HFW.out _ _ _ HQ2.out.C).mono ?_
  rintro e w3 ⟨A3, c3, rfl, hq3, hb3⟩
  have HP3 := Aside0.mk (HP2.out.below hb3)
  have HB3 := Aside0.mk (HB2.out.trans (hb3.mono HB2.out.size))
  have HQ3 := Aside0.mk hq3
  have HSD := Aside0.mk (psend_calls w3 p [] (fun k => k = p) A3 c3 fs HP3.out hq3.C HFL.out.2)
  rw [HFL.out.1, show sendB [] fs = ([fs], 0) by unfold sendB; rw [if_neg (by rw [HFL.out.1]; decide), if_neg (by decide)]; rfl] at HSD
  clear hb3 hq3
  go_wp2_with fail
  refine HSD.out.mono ?_
  rintro e w4 ⟨rfl, hp4, hk4⟩
  have HB4 := Aside0.mk (below_kept HB3.out hk4 HB3.out.size (fun k e => by have e : k = p := e; rw [e, HPP.out]; exact Nat.le_refl _))
  have HAL := Aside0.mk (pall_calls w4 p [fs] _ hp4)
  clear hp4 hk4 HSD
  go_wp2_with fail
  refine HAL.out.mono ?_
  rintro e w5 ⟨A5, c5, rfl, _, hb5⟩
  have HB5 := Aside0.mk (HB4.out.trans (hb5.mono HB4.out.size))
  clear hb5 HAL
  go_wp2_with fail
  go_ret
  exact ⟨by first | rfl | simp, HB5.out⟩
end Go.Proofs.YtpkclecgaheplaaR.Oct
