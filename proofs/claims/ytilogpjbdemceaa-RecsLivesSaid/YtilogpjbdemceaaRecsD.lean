import Derived.Test.YtilogpjbdemceaaRecsC
namespace Go.Proofs.Ytilogpjbdemceaa.Oct
open Go.RowKit Go.Proofs.YtilogpjbdemceaaW.PrintWords Go.Proofs.Ytilogpjbdemceaa.M
set_option linter.unusedVariables false
set_option linter.unusedSimpArgs false
/-- what Get leaves behind its two stores -/
theorem get_close {w w1 : World} {p g off c m : Nat} {F : Nat → Prop} {s : SS} {a : Nat} {n : Int} {v : Value}
    (hh : w.heap[p]? = some (.cells #[.int .i64 s.left, .slice (some ⟨g, off, none⟩) s.held.length c, .bool s.ended] 68 (0, 0))) (ho : QB w 0 (.slice (some ⟨g, off, none⟩) s.held.length c) s.held)
    (hp : F p) (hk : F g ∧ g ≠ p) (hok : s.ok) (hn : 1 ≤ n) (ha : s.head = (a, 0)) (hm : m ≤ s.held.length) (em : m = min n.toNat a)
    (hv : OB w1 w.heap.size v (s.held.take m)) (hb : Below w.heap.size w w1) (o2 : Nat) (e2 : o2 = if m = c then off else off + m) (z : Int) (ez : z = ((a - m : Nat) : Int)) (k : Nat) :
    RetG w p F (s.get n) (.returned (.tuple #[v, .bool (z == 0), .int .i64 0])) (((w1.setCell ⟨p, 1, none⟩ (.slice (some ⟨g, o2, none⟩) (s.held.length - m) (c - m))).setCell ⟨p, 0, none⟩ (.int .i64 z)).drewN k) := by
  have hgo := SS.get_ok hok n
  have hge := SS.get_good (s := s) (n := n) (by omega) ha (by omega)
  rw [← em] at hge
  rw [hge] at hgo ⊢
  clear hge
  have hpl : p < w.heap.size := (Array.getElem?_eq_some_iff.1 hh).1
  have h1 := (hb.block p hpl).trans hh
  have h2 := heap_set (.int .i64 z) (i := 0) (heap_set (.slice (some ⟨g, o2, none⟩) (s.held.length - m) (c - m)) (i := 1) h1)
  have hg12 : w1.grownBy ((w1.setCell ⟨p, 1, none⟩ (.slice (some ⟨g, o2, none⟩) (s.held.length - m) (c - m))).setCell ⟨p, 0, none⟩ (.int .i64 z)) (some p) := World.grownBy.trans (grown_set w1 p 1 _) (grown_set _ p 0 _)
  have hq1 := (ho.rest (k := m) hm).below hb
  rw [← e2] at hq1
  generalize ((w1.setCell ⟨p, 1, none⟩ (.slice (some ⟨g, o2, none⟩) (s.held.length - m) (c - m))).setCell ⟨p, 0, none⟩ (.int .i64 z)) = w2 at *
  have hbd : Below w2.heap.size w2 (w2.drewN k) := below_draws w2 k
  have hgb : w1.grownBy (w2.drewN k) (some p) := World.grownBy.trans hg12 (grown_of_below hbd (some p))
  refine ⟨v, ?_, ⟨.slice (some ⟨g, o2, none⟩) (s.held.length - m) (c - m), ?_, ?_, hp, ?_, hgo⟩, ?_, ?_⟩
  · dsimp only
    congr 5
    rw [ez]
    by_cases h : a - m = 0
    · rw [h]; rfl
    · rw [beq_eq_false_iff_ne.2 h, beq_eq_false_iff_ne.2 (by omega)]
  · have h3 := (hbd.block p (Array.getElem?_eq_some_iff.1 h2).1).trans h2
    rw [ez] at h3
    exact h3
  · refine QB.move ?_ (fun k' e => hgb.block k' (hq1.block e).2 (fun e' => ?_))
    · exact hq1
    · injection e with e
      injection e' with e'
      dsimp only at e
      exact hk.2 (e.trans e')
  · intro k' e
    injection e with e
    dsimp only at e
    subst e
    exact hk
  · exact own_move hv (fun k' e => hgb.block k' (own_lt hv k' e) (fun e' => by have := own_base hv k' e; injection e' with e'; omega))
  · exact (Kept.of_below F hb).trans (Kept.of_grown (F := F) hgb (fun k' e => by injection e with e; subst e; exact hp)) (fun _ _ h => h)
theorem C_take {w : World} {A : Option Addr} {xs : List Int} (h : (Kd.int .u8).C w A xs.length xs) (n : Nat) (hn : n ≤ xs.length) : (Kd.int .u8).C w A n (xs.take n) := by
  refine ⟨(by simp [hn]), Nat.le_trans hn h.2.1, fun h0 => ?_⟩
  obtain ⟨ad, e, hc⟩ := h.2.2 (by omega)
  refine ⟨ad, e, fun j y hy => ?_⟩
  rw [List.getElem?_take] at hy
  split at hy
  · exact hc j y hy
  · cases hy
theorem take_form {xs : List Int} {m : Nat} (h : m ≤ xs.length) : (xs.take m).length = m := by rw [List.length_take]; omega
/-- part, its rest under letters -/
theorem part_at (w : World) (g off N c o2 : Nat) (zs : List Int) (hr : Kd.C (Kd.int .u8) w (some ⟨g, off, none⟩) zs.length zs) (h1 : zs.length ≤ N) (h2 : N ≤ c) (h3 : c ≤ maxLen) (hz : zs.length ≤ 65536) (ho : o2 = if zs.length = c then off else off + zs.length) :
    Calls Try.prog 43 #[.slice (some ⟨g, off, none⟩) N c, .int .i64 zs.length] w fun e w' => ∃ A d, e = .returned (.tuple #[.slice A zs.length d, .slice (some ⟨g, o2, none⟩) (N - zs.length) (c - zs.length)]) ∧ OB w' w.heap.size (.slice A zs.length d) zs ∧ Below w.heap.size w w' := by
  refine (part_calls w g off N c zs hr h1 h2 h3 hz).mono ?_
  rintro e w' ⟨v, rfl, ho', hb⟩
  obtain ⟨A, d, rfl, _⟩ := ho'.reads
  exact ⟨A, d, by rw [ho], ho', hb⟩
set_option maxHeartbeats 4000000 in
/-- within a record -/
theorem sget_in (w : World) (p : Nat) (s : SS) (F : Nat → Prop) (n : Int) (h : StreamAt w p s F) (hn : ¬ n < 1) (hi : n ≤ 9223372036854775807) (hl : s.left ≠ 0) : Calls Try.prog 24 #[.pointer (some ⟨p, 0, none⟩), .int .i64 n] w (RetG w p F (s.get n)) := by
  have HT := Aside0.mk h
  have hhd := SS.head_rec hl
  obtain ⟨m, hm⟩ : ∃ m, m = min n.toNat s.left := ⟨_, rfl⟩
  have HM := Aside0.mk hm
  have hm1 : m ≤ s.left := by omega
  have hm2 : 0 < m := by omega
  have hmin : (if (s.left : Int) < n then (s.left : Int) else n) = (m : Int) := by split <;> omega
  by_cases hf : s.held.length < m
  · have HE : Aside0 (s.get n = ⟨s, [], false, s.lacks⟩) := ⟨SS.get_few hn hhd (by omega)⟩
    obtain ⟨v, hh, ho, hp, hk, hok⟩ := h
    obtain ⟨left, held, ended⟩ := s
    dsimp only at hh ho hl hf hmin hm1
    obtain ⟨B, d, rfl, hd, hmx, hr⟩ := ho.form
    obtain ⟨c0, c1, c2, f0, f1, f2⟩ := three_cells hh
    have hl2 : left ≤ 32767 := hok.1
    clear hh ho hp hk hok hr hd hmx hhd HM hm
    have t0 : ((left : Int) == 0) = false := beq_eq_false_iff_ne.2 (by omega)
    have t1 : (held.length : Int) < (m : Int) := by omega
    go_enter Try.func24, Try.ntmps24
    go_wp2_with fail
    refine (slacks_calls _ p _ F HT.out).mono ?_
    rintro e w1 ⟨rfl, rfl⟩
    go_wp2_with fail
    go_ret3
    exact retg_err HT.out (Below.refl _ _) HE.out
  · have HHD := Aside0.mk hhd
    obtain ⟨v, hh, ho, hp, hk, hok⟩ := h
    have HOK := Aside0.mk hok
    obtain ⟨left, held, ended⟩ := s
    dsimp only at hh ho hl hf hmin hm1
    obtain ⟨B, d, rfl, hd, hmx, hr⟩ := ho.form
    obtain ⟨_, g, off, rfl, _⟩ := ho.pos (by omega)
    obtain ⟨c0, c1, c2, f0, f1, f2⟩ := three_cells hh
    have hl2 : left ≤ 32767 := hok.1
    have hl3 : held.length ≤ 65536 := hok.2.1
    have HH := Aside0.mk hh
    have HO := Aside0.mk ho
    have HK := Aside0.mk (hk g rfl)
    have HP := Aside0.mk hp
    have HN := Aside0.mk hn
    obtain ⟨zs, hz⟩ : ∃ zs, zs = held.take m := ⟨_, rfl⟩
    have hzl : zs.length = m := by rw [hz]; exact take_form (by omega)
    have HR := Aside0.mk (show Kd.C (Kd.int .u8) w (some ⟨g, off, none⟩) zs.length zs by rw [hzl, hz]; exact C_take hr m (by omega))
    obtain rfl : m = zs.length := hzl.symm
    have HZ := Aside0.mk hz
    obtain ⟨o2, ho2⟩ : ∃ o2, o2 = if zs.length = d then off else off + zs.length := ⟨_, rfl⟩
    have HO2 := Aside0.mk ho2
    have HD := Aside0.mk (And.intro hd hmx)
    have HF : Aside0 (zs.length ≤ held.length) := ⟨by omega⟩
    clear hh ho hp hk hok hr hd hmx hhd hm hz ho2
    have t0 : ((left : Int) == 0) = false := beq_eq_false_iff_ne.2 (by omega)
    have t1 : ¬ (held.length : Int) < (zs.length : Int) := by omega
    go_enter Try.func24, Try.ntmps24
    go_wp2_with fail
    refine (part_at _ g off held.length d o2 zs HR.out HF.out HD.out.1 HD.out.2 (by have := HF.out; omega) HO2.out).mono ?_
    rintro e w1 ⟨A1, d1, rfl, ho1, hb1⟩
    have hh1 := blk_keep HH.out hb1
    obtain ⟨c0, c1, c2, f0, f1, f2⟩ := three_cells hh1
    have HO1 := Aside0.mk ho1
    have HB1 := Aside0.mk hb1
    clear ho1 hb1 hh1
    go_wp2_with fail
    go_quiet (fail)
    go_wp2_with fail
    go_ret3
    exact get_close HH.out HO.out HP.out HK.out HOK.out HN.out HHD.out HF.out HM.out (by have e := HZ.out; dsimp only; rw [← e]; exact HO1.out) HB1.out o2 HO2.out _ (by omega) _
end Go.Proofs.Ytilogpjbdemceaa.Oct
