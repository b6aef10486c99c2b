import Derived.Test.YtilogpjbdemceaaRecsB
namespace Go.Proofs.Ytilogpjbdemceaa.Oct
open Go.RowKit Go.Proofs.YtilogpjbdemceaaW.PrintWords Go.Proofs.Ytilogpjbdemceaa.M
set_option linter.unusedVariables false
set_option linter.unusedSimpArgs false
theorem i64_orb {v x : Int} (h0 : 0 ≤ v) (h : v < 256) (hx0 : 0 ≤ x) (hx : x < 256) : Go.bits .or .i64 (v * 256) x = v * 256 + x :=
  bits_join .i64 63 (by decide) (fun n h0 h1 => by simp [IntKind.wrap, IntKind.bits, IntKind.signed]; omega) 8 _ _ (by omega) (by omega) (by omega) hx0 (by omega) (by omega)
def RetG (w : World) (p : Nat) (F : Nat → Prop) (g : Got) (e : Ending) (w' : World) : Prop :=
  ∃ v, e = .returned (.tuple #[v, .bool g.whole, .int .i64 g.err]) ∧ StreamAt w' p g.st F ∧ OB w' w.heap.size v g.out ∧ Kept w F w'
theorem retg_err {w w' : World} {p : Nat} {F : Nat → Prop} {s : SS} {n : Int} {err : Int} (h : StreamAt w p s F) (hb : Below w.heap.size w w') (he : s.get n = ⟨s, [], false, err⟩) :
    RetG w p F (s.get n) (.returned (.tuple #[.slice none 0 0, .bool false, .int .i64 err])) w' := by
  rw [he]
  exact ⟨_, rfl, h.below hb, OB.nil _ _, Kept.of_below _ hb⟩
theorem below_draws (W : World) (n : Nat) : Below W.heap.size W (W.drewN n) := pw_below_drewN (Below.refl _ _) n
theorem sget_arg (w : World) (p : Nat) (s : SS) (F : Nat → Prop) (n : Int) (h : StreamAt w p s F) (hn : n < 1) : Calls Try.prog 24 #[.pointer (some ⟨p, 0, none⟩), .int .i64 n] w (RetG w p F (s.get n)) := by
  have HT := Aside0.mk h
  have HE := Aside0.mk (SS.get_arg (s := s) hn)
  clear h
  go_enter Try.func24, Try.ntmps24
  go_wp2
  go_ret3
  exact retg_err HT.out (Below.refl _ _) HE.out
theorem sget_none (w : World) (p : Nat) (F : Nat → Prop) (n : Int) (h : StreamAt w p ⟨0, [], true⟩ F) (hn : ¬ n < 1) : Calls Try.prog 24 #[.pointer (some ⟨p, 0, none⟩), .int .i64 n] w (RetG w p F (SS.get ⟨0, [], true⟩ n)) := by
  have HT := Aside0.mk h
  have HE : Aside0 (SS.get ⟨0, [], true⟩ n = ⟨⟨0, [], true⟩, [], false, 4⟩) := ⟨SS.get_head hn (SS.head_few rfl (by simp)) (by simp)⟩
  obtain ⟨v, hh, ho, hp, hk, hok⟩ := h
  dsimp only at hh ho
  obtain ⟨B, d, rfl, hd, hm, hr⟩ := ho.form
  obtain ⟨c0, c1, c2, f0, f1, f2⟩ := three_cells hh
  clear hh ho hp hk hok hr hd hm
  go_enter Try.func24, Try.ntmps24
  go_wp2
  go_ret3
  exact retg_err HT.out (Below.refl _ _) HE.out
theorem sget_few (w : World) (p : Nat) (s : SS) (F : Nat → Prop) (n : Int) (h : StreamAt w p s F) (hn : ¬ n < 1) (hl : s.left = 0) (h2 : s.held.length < 2) (h3 : s.ended = false ∨ 0 < s.held.length) : Calls Try.prog 24 #[.pointer (some ⟨p, 0, none⟩), .int .i64 n] w (RetG w p F (s.get n)) := by
  have HT := Aside0.mk h
  have HE : Aside0 (s.get n = ⟨s, [], false, s.lacks⟩) := ⟨by
    have := SS.head_few hl h2
    rw [if_neg (by rcases h3 with h3 | h3 <;> simp [h3]; intro _ h; rw [h] at h3; simp at h3)] at this
    exact SS.get_head hn this (SS.lacks_ne s)⟩
  obtain ⟨v, hh, ho, hp, hk, hok⟩ := h
  obtain ⟨left, held, ended⟩ := s
  dsimp only at hh ho hl h2 h3
  subst hl
  obtain ⟨B, d, rfl, hd, hm, hr⟩ := ho.form
  obtain ⟨c0, c1, c2, f0, f1, f2⟩ := three_cells hh
  clear hh ho hp hk hok hr hd hm
  have t2 : (held.length : Int) < 2 := by omega
  rcases h3 with rfl | h3
  · go_enter Try.func24, Try.ntmps24
    go_wp2_with fail
    refine (slacks_calls _ p _ F HT.out).mono ?_
    rintro e w1 ⟨rfl, rfl⟩
    go_wp2_with fail
    go_ret3
    exact retg_err HT.out (Below.refl _ _) HE.out
  · have t3 : ((held.length : Int) == 0) = false := beq_eq_false_iff_ne.2 (by omega)
    cases ended
    all_goals
      go_enter Try.func24, Try.ntmps24
      go_wp2_with fail
      refine (slacks_calls _ p _ F HT.out).mono ?_
      rintro e w1 ⟨rfl, rfl⟩
      go_wp2_with fail
      go_ret3
      exact retg_err HT.out (Below.refl _ _) HE.out
/-- the first two bytes -/
theorem QB.two {W : World} {base n c : Nat} {A : Option Addr} {xs : List Int} (h : QB W base (.slice A n c) xs) (h2 : 2 ≤ xs.length) :
    n = xs.length ∧ ∃ g off, A = some ⟨g, off, none⟩ ∧ W.cell? ⟨g, off, none⟩ = some (.int .u8 (xs.getD 0 0)) ∧ W.cell? ⟨g, off + 1, none⟩ = some (.int .u8 (xs.getD 1 0)) := by
  obtain ⟨A', c', e, _, _, hr⟩ := h.form
  injection e with e1 e2 e3
  subst e1 e2
  obtain ⟨_, g, off, rfl, _⟩ := h.pos (by omega)
  obtain ⟨ad, e, k0⟩ := C_byte hr (k := 0) (by omega)
  obtain ⟨ad', e', k1⟩ := C_byte hr (k := 1) (by omega)
  cases e
  cases e'
  rw [Addr.add_lit] at k0 k1
  exact ⟨rfl, g, off, rfl, k0, k1⟩
set_option maxHeartbeats 1000000 in
theorem sget_bad (w : World) (p : Nat) (s : SS) (F : Nat → Prop) (n : Int) (h : StreamAt w p s F) (hn : ¬ n < 1) (hl : s.left = 0) (h2 : ¬ s.held.length < 2) (h3 : s.len < 2 ∨ 32767 < s.len) : Calls Try.prog 24 #[.pointer (some ⟨p, 0, none⟩), .int .i64 n] w (RetG w p F (s.get n)) := by
  have HT := Aside0.mk h
  have HE : Aside0 (s.get n = ⟨s, [], false, 40⟩) := ⟨SS.get_head hn (SS.head_bad hl h2 h3) (by decide)⟩
  obtain ⟨v, hh, ho, hp, hk, hok⟩ := h
  have hb0 := hok.2.2.getD 0
  have hb1 := hok.2.2.getD 1
  obtain ⟨left, held, ended⟩ := s
  dsimp only at hh ho hl h2 hb0 hb1
  unfold SS.len at h3
  dsimp only at h3
  subst hl
  obtain ⟨B, d, rfl, hd, hm, hr⟩ := ho.form
  obtain ⟨c0, c1, c2, f0, f1, f2⟩ := three_cells hh
  obtain ⟨_, g, off, rfl, k0, k1⟩ := ho.two (by omega)
  have hdl : held.length ≤ 65536 := hok.2.1
  clear hh ho hp hk hok hr hm
  obtain ⟨x, hx⟩ : ∃ x, x = held.getD 0 0 := ⟨_, rfl⟩
  obtain ⟨y, hy⟩ : ∃ y, y = held.getD 1 0 := ⟨_, rfl⟩
  rw [← hx] at k0 hb0 h3
  rw [← hy] at k1 hb1 h3
  clear hx hy
  obtain ⟨hx0, hx1⟩ := hb0
  obtain ⟨hy0, hy1⟩ := hb1
  have hor := i64_orb hx0 hx1 hy0 hy1
  have t2 : ¬ (held.length : Int) < 2 := by omega
  have t3 : ((held.length : Int) == 0) = false := beq_eq_false_iff_ne.2 (by omega)
  have d0 : (0 : Int) < (held.length : Int) := by omega
  have d1 : (1 : Int) < (held.length : Int) := by omega
  have h3' : x * 256 + y < 2 ∨ (2 ≤ x * 256 + y ∧ 32767 < x * 256 + y) := by omega
  clear h3
  rcases h3' with h3 | ⟨h3, h4⟩
  all_goals
    cases ended
    all_goals
      go_enter Try.func24, Try.ntmps24
      go_wp2_with fail
      go_quiet (fail)
      go_wp2_with fail
      go_ret3
      exact retg_err HT.out (below_draws _ _) HE.out
end Go.Proofs.Ytilogpjbdemceaa.Oct
