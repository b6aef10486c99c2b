import Derived.Test.YtilogpjbdemceaaRecsD
namespace Go.Proofs.Ytilogpjbdemceaa.Oct
open Go.RowKit Go.Proofs.YtilogpjbdemceaaW.PrintWords Go.Proofs.Ytilogpjbdemceaa.M
set_option linter.unusedVariables false
set_option linter.unusedSimpArgs false
set_option maxHeartbeats 4000000 in
/-- at a record's beginning -/
theorem sget_at (w : World) (p : Nat) (s : SS) (F : Nat → Prop) (n : Int) (h : StreamAt w p s F) (hn : ¬ n < 1) (hi : n ≤ 9223372036854775807) (hl : s.left = 0) (h2 : ¬ s.held.length < 2) (h3 : ¬ (s.len < 2 ∨ 32767 < s.len)) : Calls Try.prog 24 #[.pointer (some ⟨p, 0, none⟩), .int .i64 n] w (RetG w p F (s.get n)) := by
  have HT := Aside0.mk h
  have hhd := SS.head_good hl h2 h3
  obtain ⟨a, ha⟩ : ∃ a, a = s.len := ⟨_, rfl⟩
  rw [← ha] at hhd h3
  obtain ⟨m, hm⟩ : ∃ m, m = min n.toNat a := ⟨_, rfl⟩
  have HM := Aside0.mk hm
  have hm1 : m ≤ a := by omega
  have hm2 : 0 < m := by omega
  have hmin : (if (a : Int) < n then (a : Int) else n) = (m : Int) := by split <;> omega
  by_cases hf : s.held.length < m
  · have HE : Aside0 (s.get n = ⟨s, [], false, s.lacks⟩) := ⟨SS.get_few hn hhd (by omega)⟩
    obtain ⟨v, hh, ho, hp, hk, hok⟩ := h
    obtain ⟨left, held, ended⟩ := s
    have hb0 := hok.2.2.getD 0
    have hb1 := hok.2.2.getD 1
    dsimp only at hh ho hl hf hmin hm1 h2 hb0 hb1
    unfold SS.len at ha
    dsimp only at ha
    subst hl
    obtain ⟨B, d, rfl, hd, hmx, hr⟩ := ho.form
    obtain ⟨c0, c1, c2, f0, f1, f2⟩ := three_cells hh
    obtain ⟨_, g, off, rfl, k0, k1⟩ := ho.two (by omega)
    obtain ⟨x, hx⟩ : ∃ x, x = held.getD 0 0 := ⟨_, rfl⟩
    obtain ⟨y, hy⟩ : ∃ y, y = held.getD 1 0 := ⟨_, rfl⟩
    rw [← hx] at k0 hb0 ha
    rw [← hy] at k1 hb1 ha
    clear hx hy
    obtain ⟨hx0, hx1⟩ := hb0
    obtain ⟨hy0, hy1⟩ := hb1
    have hor : Go.bits .or .i64 (x * 256) y = (a : Int) := by rw [i64_orb hx0 hx1 hy0 hy1, ha]; omega
    have a2 : 2 ≤ (a : Int) := by omega
    have a3 : (a : Int) ≤ 32767 := by omega
    have d0 : (0 : Int) < (held.length : Int) := by omega
    have d1 : (1 : Int) < (held.length : Int) := by omega
    have t2 : ¬ (held.length : Int) < 2 := by omega
    have t3 : ((held.length : Int) == 0) = false := beq_eq_false_iff_ne.2 (by omega)
    have hdl : held.length ≤ 65536 := hok.2.1
    clear hh ho hp hk hok hr hd hmx hhd HM hm
    clear ha h2 h3
    have t1 : (held.length : Int) < (m : Int) := by omega
    cases ended
    all_goals
      go_enter Try.func24, Try.ntmps24
      go_wp2_with fail
      go_quiet (fail)
      go_wp2_with fail
      refine (slacks_calls _ p _ F (HT.out.below (below_draws _ _))).mono ?_
      rintro e w1 ⟨rfl, rfl⟩
      go_wp2_with fail
      go_ret3
      exact retg_err HT.out (below_draws _ _) HE.out
  · have HHD := Aside0.mk hhd
    obtain ⟨v, hh, ho, hp, hk, hok⟩ := h
    have HOK := Aside0.mk hok
    obtain ⟨left, held, ended⟩ := s
    have hb0 := hok.2.2.getD 0
    have hb1 := hok.2.2.getD 1
    dsimp only at hh ho hl hf hmin hm1 h2 hb0 hb1
    unfold SS.len at ha
    dsimp only at ha
    subst hl
    obtain ⟨B, d, rfl, hd, hmx, hr⟩ := ho.form
    obtain ⟨_, g, off, rfl, _⟩ := ho.pos (by omega)
    obtain ⟨c0, c1, c2, f0, f1, f2⟩ := three_cells hh
    obtain ⟨_, g', off', e', k0, k1⟩ := ho.two (by omega)
    injection e' with e'
    injection e' with e1 e2
    subst e1 e2
    obtain ⟨x, hx⟩ : ∃ x, x = held.getD 0 0 := ⟨_, rfl⟩
    obtain ⟨y, hy⟩ : ∃ y, y = held.getD 1 0 := ⟨_, rfl⟩
    rw [← hx] at k0 hb0 ha
    rw [← hy] at k1 hb1 ha
    clear hx hy
    obtain ⟨hx0, hx1⟩ := hb0
    obtain ⟨hy0, hy1⟩ := hb1
    have hor : Go.bits .or .i64 (x * 256) y = (a : Int) := by rw [i64_orb hx0 hx1 hy0 hy1, ha]; omega
    have a2 : 2 ≤ (a : Int) := by omega
    have a3 : (a : Int) ≤ 32767 := by omega
    have d0 : (0 : Int) < (held.length : Int) := by omega
    have d1 : (1 : Int) < (held.length : Int) := by omega
    have t2 : ¬ (held.length : Int) < 2 := by omega
    have t3 : ((held.length : Int) == 0) = false := beq_eq_false_iff_ne.2 (by omega)
    have hdl : held.length ≤ 65536 := hok.2.1
    have hl3 : held.length ≤ 65536 := hok.2.1
    have HH := Aside0.mk hh
    have HO := Aside0.mk ho
    have HK := Aside0.mk (hk g rfl)
    have HP := Aside0.mk hp
    have HN := Aside0.mk hn
    obtain ⟨zs, hz⟩ : ∃ zs, zs = held.take m := ⟨_, rfl⟩
    have hzl : zs.length = m := by rw [hz]; exact take_form (by omega)
    have HR := Aside0.mk (show Kd.C (Kd.int .u8) w (some ⟨g, off, none⟩) zs.length zs by rw [hzl, hz]; exact C_take hr m (by omega))
    obtain rfl : m = zs.length := hzl.symm
    have HZ := Aside0.mk hz
    obtain ⟨o2, ho2⟩ : ∃ o2, o2 = if zs.length = d then off else off + zs.length := ⟨_, rfl⟩
    have HO2 := Aside0.mk ho2
    have HD := Aside0.mk (And.intro hd hmx)
    have HF : Aside0 (zs.length ≤ held.length) := ⟨by omega⟩
    clear hh ho hp hk hok hr hd hmx hhd hm hz ho2
    clear ha h2 h3
    have t1 : ¬ (held.length : Int) < (zs.length : Int) := by omega
    cases ended
    all_goals
      go_enter Try.func24, Try.ntmps24
      go_wp2_with fail
      go_quiet (fail)
      obtain ⟨w0, hw0⟩ : ∃ w0, w0 = w.drewN nq := ⟨_, rfl⟩
      have HB0 : Aside0 (Below w.heap.size w w0) := ⟨by rw [hw0]; exact below_draws _ _⟩
      rw [← hw0]
      clear hw0 c0 c1 c2 f0 f1 f2
      obtain ⟨c0, c1, c2, f0, f1, f2⟩ := three_cells (blk_keep HH.out HB0.out)
      go_wp2_with fail
      refine (part_at _ g off held.length d o2 zs (Kd.C_below HR.out HB0.out) HF.out HD.out.1 HD.out.2 (by have := HF.out; omega) HO2.out).mono ?_
      rintro e w1 ⟨A1, d1, rfl, ho1, hb1⟩
      have hb01 := HB0.out.trans (hb1.mono HB0.out.size)
      have HO1 := Aside0.mk (ho1.lower HB0.out.size)
      have HB1 := Aside0.mk hb01
      clear c0 c1 c2 f0 f1 f2
      obtain ⟨c0, c1, c2, f0, f1, f2⟩ := three_cells (blk_keep HH.out hb01)
      clear ho1 hb1 hb01
      go_wp2_with fail
      go_quiet (fail)
      go_wp2_with fail
      go_ret3
      exact get_close HH.out HO.out HP.out HK.out HOK.out HN.out HHD.out HF.out HM.out (by have e := HZ.out; dsimp only; rw [← e]; exact HO1.out) HB1.out o2 HO2.out _ (by omega) _
theorem sget_calls (w : World) (p : Nat) (s : SS) (F : Nat → Prop) (n : Int) (h : StreamAt w p s F) (hi : n ≤ 9223372036854775807) : Calls Try.prog 24 #[.pointer (some ⟨p, 0, none⟩), .int .i64 n] w (RetG w p F (s.get n)) := by
  by_cases hn : n < 1
  · exact sget_arg w p s F n h hn
  by_cases hl : s.left = 0
  · by_cases h2 : s.held.length < 2
    · by_cases h3 : s.ended = false ∨ 0 < s.held.length
      · exact sget_few w p s F n h hn hl h2 h3
      · obtain ⟨left, held, ended⟩ := s
        dsimp only at hl h3
        subst hl
        obtain rfl : held = [] := List.eq_nil_of_length_eq_zero (by omega)
        obtain rfl : ended = true := by cases ended <;> simp at h3 ⊢
        exact sget_none w p F n h hn
    · by_cases h3 : s.len < 2 ∨ 32767 < s.len
      · exact sget_bad w p s F n h hn hl h2 h3
      · exact sget_at w p s F n h hn hi hl h2 h3
  · exact sget_in w p s F n h hn hi hl
end Go.Proofs.Ytilogpjbdemceaa.Oct
