import Derived.Test.YtcpkfkcemaihfaaSessA
/- Put. -/
namespace Go.Proofs.Ytcpkfkcemaihfaa.Oct
open Go.RowKit Go.Proofs.YtcpkfkcemaihfaaW.PrintWords Go.Proofs.Ytcpkfkcemaihfaa.M
set_option linter.unusedVariables false
set_option linter.unusedSimpArgs false
/-- what Put leaves behind its store -/
theorem put_close {w wc w1 : World} {p : Nat} {s : Es} {F : Nat → Prop} {v u v1 : Value} {vs : List Value} {ys : List Int} (hh : w.heap[p]? = some (.cells #[.int .u32 s.ses, .int .i64 s.win, v, .int .i64 s.first, .int .i64 s.exp] 61 (0, 0))) (ho : OwnAt w 0 38 1 v s.q.length vs) (he : Tls w vs s.q) (hp : F p) (hk : ∀ k, v.ownBlock = some k → F k) (hu : ∀ u ∈ vs, ∀ k, u.ownBlock = some k → F k) (hok : Es.ok { s with q := s.q ++ [ys] })
    (hb : Below w.heap.size w wc) (hcu : OB wc w.heap.size u ys) (h1 : OwnAt w1 0 38 1 v1 (s.q.length + 1) (vs ++ [u])) (hg : wc.grownBy w1 v.ownBlock) (hn : v1.ownBlock = v.ownBlock ∨ ∃ b, v1.ownBlock = some b ∧ wc.heap.size ≤ b) :
    RetE w p F { s with q := s.q ++ [ys] } 0 (.returned (.int .i64 0)) (w1.setCell ⟨p, 2, none⟩ v1) := by
  have hpl : p < w.heap.size := (Array.getElem?_eq_some_iff.1 hh).1
  have hhc := (hb.block p hpl).trans hh
  have hne : ∀ k, v.ownBlock = some k → k ≠ p := fun k e => ho.ne e hh (by decide)
  have hh1 : w1.heap[p]? = some (.cells #[.int .u32 s.ses, .int .i64 s.win, v, .int .i64 s.first, .int .i64 s.exp] 61 (0, 0)) := (hg.block p (Nat.lt_of_lt_of_le hpl hb.size) (fun e => hne p e.symm rfl)).trans hhc
  have hs := grown_set w1 p 2 v1
  have hgs : wc.heap.size ≤ (w1.setCell ⟨p, 2, none⟩ v1).heap.size := Nat.le_trans hg.size hs.size
  have hmv : ∀ x l, QB wc 0 x l → ∀ k, x.ownBlock = some k → (w1.setCell ⟨p, 2, none⟩ v1).heap[k]? = wc.heap[k]? := fun x l hq k e => by
    have hkl := (hq.block e).2
    have hkp : k ≠ p := OwnAt.ne hq e hhc (by decide)
    have hkv : some k ≠ v.ownBlock := fun e2 => by
      obtain ⟨cur, hc⟩ := (ho.move (fun k e => hb.block k (ho.block e).2)).type e2.symm
      obtain ⟨cur2, hc2⟩ := OwnAt.type hq e
      rw [hc] at hc2
      injection hc2 with hc2
      injection hc2 with _ hc2
      exact absurd hc2 (by decide)
    exact (hs.block k (Nat.lt_of_lt_of_le hkl hg.size) (fun e => hkp (by injection e))).trans (hg.block k hkl hkv)
  have hec : Tls wc vs s.q := he.move (fun x hx k e => by obtain ⟨l, hq⟩ := he.mem hx; exact hb.block k (hq.block e).2)
  have hqu : QB wc 0 u ys := (QB.of_OB hcu).lower (Nat.zero_le _)
  refine ⟨rfl, ⟨v1, vs ++ [u], heap_set v1 hh1, ?_, ?_, .inl hp, ?_, ?_, hok⟩, ?_⟩
  · show OwnAt _ 0 38 1 v1 (s.q ++ [ys]).length (vs ++ [u])
    rw [List.length_append]
    refine h1.move (fun k e => hs.block k (h1.block e).2 (fun e2 => ?_))
    injection e2 with e2
    exact h1.ne e hh1 (by decide) e2
  · refine (hec.snoc hqu).move (fun x hx k e => ?_)
    rcases List.mem_append.1 hx with hx | hx
    · obtain ⟨l, hq⟩ := hec.mem hx
      exact hmv x l hq k e
    · obtain rfl : x = u := by simpa using hx
      exact hmv x ys hqu k e
  · intro k e
    rcases hn with h | ⟨b, h, hb'⟩
    · rw [h] at e; exact .inl (hk k e)
    · rw [h] at e
      injection e with e
      subst e
      exact .inr (Nat.le_trans hb.size hb')
  · intro x hx k e
    rcases List.mem_append.1 hx with hx | hx
    · exact .inl (hu x hx k e)
    · obtain rfl : x = u := by simpa using hx
      exact .inr (own_base hcu k e)
  · refine ((Kept.of_below F hb).trans (Kept.of_grown (F := F) hg hk) (fun _ _ h => h)).trans (Kept.of_grown (F := F) hs (fun k e => by injection e with e; subst e; exact hp)) (fun _ _ h => h)
theorem end_cell {w W w1 : World} {p n : Nat} {a b c d v : Value} {vs : List Value} (hh : w.heap[p]? = some (.cells #[a, b, v, c, d] 61 (0, 0))) (ho : OwnAt w 0 38 1 v n vs) (hb : Below w.heap.size w W) (hg : W.grownBy w1 v.ownBlock) : w1.heap[p]? = some (.cells #[a, b, v, c, d] 61 (0, 0)) := by
  have hpl := (Array.getElem?_eq_some_iff.1 hh).1
  exact (hg.block p (Nat.lt_of_lt_of_le hpl hb.size) (fun e => ho.ne e.symm hh (by decide) rfl)).trans ((hb.block p hpl).trans hh)
attribute [local go_sem ↓] Go.wp_at_zero Go.wp_at_succ
set_option maxRecDepth 200000 in
set_option maxHeartbeats 8000000 in
theorem eput_calls (w : World) (p : Nat) (s : Es) (F : Nat → Prop) (A : Option Addr) (c : Nat) (ys : List Int) (h : EndAt w p s F) (hy : Kd.C (Kd.int .u8) w A ys.length ys) (hb : Bytes ys) :
    Calls Try.prog 12 #[.pointer (some ⟨p, 0, none⟩), .slice A ys.length c] w (RetE w p F (s.put ys).1 (s.put ys).2) := by
  have HT := Aside0.mk h
  have hyl : ys.length ≤ 9223372036854775807 := hy.2.1
  have HY := Aside0.mk hy
  have HOK2 := Aside0.mk (Es.put_ok h.is.2.2 hb)
  obtain ⟨v, vs, hh, ho, he, hp, hk, hu, hok⟩ := h
  have hl : s.q.length ≤ 64 := hok.2.2.1
  have hfl : s.first + s.q.length ≤ 65535 := hok.2.2.2.2.1
  have HA := Aside0.mk (And.intro hh (And.intro ho (And.intro he (And.intro hp (And.intro hk hu)))))
  obtain ⟨B, d, rfl, hd, hm⟩ := ho.form
  obtain ⟨⟨c0, c1, c2, c3, c4⟩, f0, f1, f2, f3, f4⟩ := five_cells hh
  obtain ⟨n, hn⟩ : ∃ n, n = s.q.length := ⟨_, rfl⟩
  obtain ⟨M, hM⟩ : ∃ M, M = s.first + n := ⟨_, rfl⟩
  have HN := Aside0.mk hn
  rw [← hn] at c2 hl hd
  have g1 : (s.first : Int) + (n : Int) = (M : Int) := by omega
  have g2 : IntKind.i64.wrap ((s.first : Int) + (n : Int)) = (M : Int) := by rw [IntWalk.i64_in _ (by omega)]; omega
  have g3 : IntKind.i64.wrap (M : Int) = (M : Int) := IntWalk.i64_in _ (by omega)
  have hcase : (s.put ys = (s, 1) ∧ ys.length = 0) ∨ (s.put ys = (s, 2) ∧ ys.length ≠ 0 ∧ 256 < ys.length) ∨ (s.put ys = (s, 5) ∧ ys.length ≠ 0 ∧ ¬ 256 < ys.length ∧ 64 ≤ n) ∨ (s.put ys = (s, 91) ∧ ys.length ≠ 0 ∧ ¬ 256 < ys.length ∧ ¬ 64 ≤ n ∧ 65535 ≤ M) ∨ (s.put ys = ({ s with q := s.q ++ [ys] }, 0) ∧ ys.length ≠ 0 ∧ ¬ 256 < ys.length ∧ ¬ 64 ≤ n ∧ ¬ 65535 ≤ M) := by
    unfold Es.put
    rw [← hn, ← hM]
    by_cases h1 : ys.length = 0
    · rw [if_pos h1]; exact .inl ⟨rfl, h1⟩
    rw [if_neg h1]
    by_cases h2 : 256 < ys.length
    · rw [if_pos h2]; exact .inr (.inl ⟨rfl, h1, h2⟩)
    rw [if_neg h2]
    by_cases h3 : 64 ≤ n
    · rw [if_pos h3]; exact .inr (.inr (.inl ⟨rfl, h1, h2, h3⟩))
    rw [if_neg h3]
    by_cases h4 : 65535 ≤ M
    · rw [if_pos h4]; exact .inr (.inr (.inr (.inl ⟨rfl, h1, h2, h3, h4⟩)))
    rw [if_neg h4]
    exact .inr (.inr (.inr (.inr ⟨rfl, h1, h2, h3, h4⟩)))
  clear hh ho he hp hk hu hok hy hb hn hM
  obtain ⟨m, hm2⟩ : ∃ m, m = ys.length := ⟨_, rfl⟩
  have HM := Aside0.mk hm2
  rw [← hm2] at hcase hyl ⊢
  clear hm2
  rcases hcase with ⟨hV, h1⟩ | ⟨hV, h1, h2⟩ | ⟨hV, h1, h2, h3⟩ | ⟨hV, h1, h2, h3, h4⟩ | ⟨hV, h1, h2, h3, h4⟩
  · have HV := Aside0.mk hV
    have b0 : ((m : Int) == 0) = true := by simp; omega
    clear hV h1
    go_enter Try.func12, Try.ntmps12
    go_wp2_with fail
    refine (emade_calls _ p s F HT.out).mono ?_
    rintro e w1 ⟨rfl, rfl⟩
    go_wp2_with fail
    go_ret
    rw [HV.out]
    exact rete_same HT.out (Below.refl _ _)
  · have HV := Aside0.mk hV
    have b0 : ((m : Int) == 0) = false := by simp; omega
    have b1 : 256 < (m : Int) := by omega
    clear hV h1 h2
    go_enter Try.func12, Try.ntmps12
    go_wp2_with fail
    refine (emade_calls _ p s F HT.out).mono ?_
    rintro e w1 ⟨rfl, rfl⟩
    go_wp2_with fail
    go_ret
    rw [HV.out]
    exact rete_same HT.out (Below.refl _ _)
  · have HV := Aside0.mk hV
    have b0 : ((m : Int) == 0) = false := by simp; omega
    have b1 : ¬ 256 < (m : Int) := by omega
    have b2 : 64 ≤ (n : Int) := by omega
    clear hV h1 h2 h3
    go_enter Try.func12, Try.ntmps12
    go_wp2_with fail
    refine (emade_calls _ p s F HT.out).mono ?_
    rintro e w1 ⟨rfl, rfl⟩
    go_wp2_with fail
    go_ret
    rw [HV.out]
    exact rete_same HT.out (Below.refl _ _)
  · have HV := Aside0.mk hV
    have b0 : ((m : Int) == 0) = false := by simp; omega
    have b1 : ¬ 256 < (m : Int) := by omega
    have b2 : ¬ 64 ≤ (n : Int) := by omega
    have b3 : 65535 ≤ (M : Int) := by omega
    clear hV h1 h2 h3 h4
    go_enter Try.func12, Try.ntmps12
    go_wp2_with fail
    refine (emade_calls _ p s F HT.out).mono ?_
    rintro e w1 ⟨rfl, rfl⟩
    go_wp2_with fail
    go_quiet (fail)
    go_wp2_with fail
    go_ret
    rw [HV.out]
    exact rete_same HT.out (pw_below_drewN (Below.refl _ _) _)
  · have HV := Aside0.mk hV
    have HLB : Aside0 (n ≤ 1000000) := ⟨by omega⟩
    have HLY : Aside0 (ys.length ≤ 140737488355328) := ⟨by rw [← HM.out]; omega⟩
    have HOK3 : Aside0 (Es.ok { s with q := s.q ++ [ys] }) := ⟨by have := HOK2.out; rw [hV] at this; exact this⟩
    have b0 : ((m : Int) == 0) = false := by simp; omega
    have b1 : ¬ 256 < (m : Int) := by omega
    have b2 : ¬ 64 ≤ (n : Int) := by omega
    have b3 : decide (65535 ≤ (M : Int)) = false := decide_eq_false (by omega)
    clear hV h1 h2 h3 h4
    go_enter Try.func12, Try.ntmps12
    go_wp2_with fail
    refine (emade_calls _ p s F HT.out).mono ?_
    rintro e w1 ⟨rfl, rfl⟩
    go_wp2_with fail
    go_quiet (fail)
    obtain ⟨w2, hw2⟩ : ∃ w2, w2 = w1.drewN nq := ⟨_, rfl⟩
    have HB2 : Aside0 (Below w1.heap.size w1 w2) := ⟨by rw [hw2]; exact pw_below_drewN (Below.refl _ _) _⟩
    have HB2d : Aside0 (Below w1.heap.size w1 w2.drew) := ⟨below_drew HB2.out⟩
    have HPN : Aside0 (∀ W, Below w1.heap.size w1 W → W.cell? ⟨p, 2, none⟩ = some (.slice B n d)) := ⟨fun W hW => (hW.cell (World.block_lt_of_cell? _ _ c2)).trans c2⟩
    have HCL : Aside0 (∀ W, Below w1.heap.size w1 W → Calls Try.prog 28 #[.slice A m c] W (fun e W' => ∃ A2 c2, e = .returned (.slice A2 m c2) ∧ OB W' w1.heap.size (.slice A2 m c2) ys ∧ Below w1.heap.size w1 W')) := ⟨fun W hW => by
      have := clone_calls W A c ys (Kd.C_below HY.out hW) HLY.out
      rw [← HM.out] at this
      refine this.mono ?_
      rintro e W' ⟨v, rfl, ho, hb⟩
      obtain ⟨A2, c2, rfl, _⟩ := ho.reads
      rw [← HM.out] at ho ⊢
      exact ⟨A2, c2, rfl, ho.lower hW.size, hW.trans (hb.mono hW.size)⟩⟩
    have HV2 : Aside0 (∀ W, Below w1.heap.size w1 W → OwnAt W 0 38 1 (.slice B n d) n vs) := ⟨fun W hW => by
      have := HA.out.2.1.move (fun k e => hW.block k (HA.out.2.1.block e).2)
      rw [← HN.out] at this
      exact this⟩
    have hp2 := HPN.out _ HB2.out
    rw [← hw2]
    clear hw2 c0 c1 c2 c3 c4 f0 f1 f2 f3 f4 g1 g2 g3 b0 b1 b2 b3 hd hm hl hfl hyl
    go_wp2_with fail
    go_region_law
      (first
       | (refine step_call (by rfl) 28 #[.tmp 41] #[38] (by rfl) #[.slice A m c] (by rfl) Try.f28 Try.func28 (by kernel_rfl) (by kernel_rfl) ?_; refine (HCL.out _ (by first | exact HB2.out | exact HB2d.out)).mono ?_; rintro e wc ⟨A2, c2, rfl, hou, hbc⟩; have HOU := Aside0.mk hou; have HBC := Aside0.mk hbc; have x0 := HPN.out _ HBC.out; have x1 := HPN.out _ (below_alloc HBC.out (.cells #[.slice A2 m c2] 38)); clear hou hbc; refine ⟨_, rfl, ?_⟩)
       | (refine step_row rfl (.tmp 40) (.tmp 43) rfl (.slice B n d) vs n (.slice A2 m c2) wc.heap.size rfl rfl (HV2.out _ (by first | exact below_alloc HBC.out _ | exact below_drew (below_alloc HBC.out _))) (by exact heap_alloc_new wc _) rfl HLB.out ?_; intro v1 w4 ho1 hg1 hn1; obtain ⟨A1, d1, rfl, _⟩ := ho1.form; have HG0 : Aside0 (wc.grownBy w4 (Value.slice B n d).ownBlock) := ⟨by first | exact grown_below (below_alloc (Below.refl _ _) _) hg1 | exact grown_below (below_drew (below_alloc (Below.refl _ _) _)) hg1⟩; have hw1 := end_cell HA.out.1 HA.out.2.1 HBC.out (by rw [← HN.out]; exact HG0.out); obtain ⟨⟨_, _, e0, _, _⟩, _, _, g0, _, _⟩ := five_cells hw1; have HO1 := Aside0.mk ho1; have HN1 : Aside0 ((Value.slice A1 (n + 1) d1).ownBlock = (Value.slice B n d).ownBlock ∨ ∃ b, (Value.slice A1 (n + 1) d1).ownBlock = some b ∧ wc.heap.size ≤ b) := ⟨hn1.imp id (fun ⟨b, e, h⟩ => ⟨b, e, Nat.le_trans (by simp) h⟩)⟩; clear ho1 hg1 hn1 hw1))
    all_goals
      go_wp2_with fail
      go_ret
      rw [HV.out]
      have ho1 := HO1.out
      have hg0 := HG0.out
      have hn1 := HN1.out
      rw [HN.out] at ho1 hg0 hn1 ⊢
      exact put_close HA.out.1 HA.out.2.1 HA.out.2.2.1 HA.out.2.2.2.1 HA.out.2.2.2.2.1 HA.out.2.2.2.2.2 HOK3.out HBC.out HOU.out ho1 hg0 hn1
end Go.Proofs.Ytcpkfkcemaihfaa.Oct
