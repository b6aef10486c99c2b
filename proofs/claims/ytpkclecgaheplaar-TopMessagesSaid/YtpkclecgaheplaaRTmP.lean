import Derived.Test.YtpkclecgaheplaaRTmN
/- psh.Right. -/
namespace Go.Proofs.YtpkclecgaheplaaR.M
theorem right12 {a : Mg} (h : a.k = 12) : decide a.right = (!(a.m == 0) && (a.u == 0 && (a.l == 0 && (a.s == 0 && !a.x)))) := by
  have : a.right ↔ (a.m ≠ 0 ∧ a.u = 0 ∧ a.l = 0 ∧ a.s = 0 ∧ a.x = false) := by
    unfold Mg.right Mg.names Mg.refuse Mg.work
    constructor
    · rintro (⟨_, c⟩ | ⟨c, _⟩ | ⟨c, _⟩)
      · exact c
      · omega
      · omega
    · exact fun c => .inl ⟨h, c⟩
  rw [Bool.eq_iff_iff, decide_eq_true_iff, this]
  simp
theorem right13 {a : Mg} (h : a.k = 13) : decide a.right = (a.u == 0 && (a.l == 0 && (a.s == 0 && (!a.x && (a.m == 0 && a.y == 0))))) := by
  have : a.right ↔ (a.u = 0 ∧ a.l = 0 ∧ a.s = 0 ∧ a.x = false ∧ a.m = 0 ∧ a.y = 0) := by
    unfold Mg.right Mg.names Mg.refuse Mg.work
    constructor
    · rintro (⟨c, _⟩ | ⟨_, c⟩ | ⟨c, _⟩)
      · omega
      · exact c
      · omega
    · exact fun c => .inr (.inl ⟨h, c⟩)
  rw [Bool.eq_iff_iff, decide_eq_true_iff, this]
  simp
theorem rightw {a : Mg} (h : a.k ≠ 12) (h' : a.k ≠ 13) : decide a.right = (decide (1 ≤ a.k) && (decide (a.k < 12) && (decide (luwP a.u a.s) && ((!a.x || a.k == 9) && (a.m == 0 && a.y == 0))))) := by
  have : a.right ↔ (1 ≤ a.k ∧ a.k < 12 ∧ luwP a.u a.s ∧ (a.x = false ∨ a.k = 9) ∧ a.m = 0 ∧ a.y = 0) := by
    unfold Mg.right Mg.names Mg.refuse Mg.work
    constructor
    · rintro (⟨c, _⟩ | ⟨c, _⟩ | ⟨c, d⟩)
      · exact absurd c h
      · exact absurd c h'
      · exact ⟨c.1, c.2, d⟩
    · exact fun c => .inr (.inr ⟨⟨c.1, c.2.1⟩, c.2.2⟩)
  rw [Bool.eq_iff_iff, decide_eq_true_iff, this]
  simp
end Go.Proofs.YtpkclecgaheplaaR.M
namespace Go.Proofs.YtpkclecgaheplaaR.Oct
open Go.RowKit Go.Proofs.YtpkclecgaheplaaRW.PrintWords Go.Proofs.YtpkclecgaheplaaR.M
set_option linter.unusedVariables false
set_option linter.unusedSimpArgs false
abbrev mgV (a : Mg) : Value := .agg #[.int .i64 a.k, .int .i64 a.u, .int .u32 a.l, .int .u32 a.s, .bool a.x, .int .u32 a.m, .int .u32 a.y]
abbrev mgC (a : Mg) : Obj := .cells #[.int .i64 a.k, .int .i64 a.u, .int .u32 a.l, .int .u32 a.s, .bool a.x, .int .u32 a.m, .int .u32 a.y] 36
theorem seven_frz {W : World} {b : Nat} {x0 x1 x2 x3 x4 x5 x6 : Value} {t : TypeId} (h : W.heap[b]? = some (.cells #[x0, x1, x2, x3, x4, x5, x6] t (0, 0))) :
    (W.cell? ⟨b, 0, none⟩ = some x0 ∧ W.cell? ⟨b, 1, none⟩ = some x1 ∧ W.cell? ⟨b, 2, none⟩ = some x2 ∧ W.cell? ⟨b, 3, none⟩ = some x3 ∧ W.cell? ⟨b, 4, none⟩ = some x4 ∧ W.cell? ⟨b, 5, none⟩ = some x5 ∧ W.cell? ⟨b, 6, none⟩ = some x6) ∧
    W.frozen? ⟨b, 0, none⟩ = false ∧ W.frozen? ⟨b, 1, none⟩ = false ∧ W.frozen? ⟨b, 2, none⟩ = false ∧ W.frozen? ⟨b, 3, none⟩ = false ∧ W.frozen? ⟨b, 4, none⟩ = false ∧ W.frozen? ⟨b, 5, none⟩ = false ∧ W.frozen? ⟨b, 6, none⟩ = false := by
  refine ⟨⟨?_, ?_, ?_, ?_, ?_, ?_, ?_⟩, ?_, ?_, ?_, ?_, ?_, ?_, ?_⟩ <;> simp [World.cell?, World.frozen?, h]
set_option maxHeartbeats 4000000 in
theorem pright_refuse (w : World) (a : Mg) (hk : a.k = 13) : Calls Try.prog 15 #[mgV a] w fun e w' => e = .returned (.bool (decide a.right)) ∧ Below w.heap.size w w' := by
  rw [right13 hk]
  obtain ⟨k, u, l, s, x, m, y⟩ := a
  dsimp only at hk ⊢
  have b1 : (k == 12) = false := beq_eq_false_iff_ne.2 (by omega)
  have b2 : (k == 13) = true := beq_iff_eq.2 hk
  have HB : Aside0 (Below w.heap.size w (w.alloc (mgC ⟨k, u, l, s, x, m, y⟩))) := ⟨below_alloc (Below.refl _ _) _⟩
  clear hk
  go_enter Try.func15, Try.ntmps15
  go_wp2_with fail
  all_goals
    go_ret
    exact ⟨by simp [*], below_alloc (Below.refl _ _) _⟩
set_option maxHeartbeats 4000000 in
theorem pright_names (w : World) (a : Mg) (hk : a.k = 12) : Calls Try.prog 15 #[mgV a] w fun e w' => e = .returned (.bool (decide a.right)) ∧ Below w.heap.size w w' := by
  rw [right12 hk]
  obtain ⟨k, u, l, s, x, m, y⟩ := a
  dsimp only at hk ⊢
  have b1 : (k == 12) = true := beq_iff_eq.2 hk
  have HB : Aside0 (Below w.heap.size w (w.alloc (mgC ⟨k, u, l, s, x, m, y⟩))) := ⟨below_alloc (Below.refl _ _) _⟩
  have HB2 : Aside0 (Below w.heap.size w (((w.alloc (mgC ⟨k, u, l, s, x, m, y⟩)).setCell ⟨w.heap.size, 5, none⟩ (.int .u32 0)).setCell ⟨w.heap.size, 6, none⟩ (.int .u32 0))) := ⟨(HB.out.setCell (p := ⟨w.heap.size, 5, none⟩) (Nat.le_refl _) _).setCell (p := ⟨w.heap.size, 6, none⟩) (Nat.le_refl _) _⟩
  clear hk
  by_cases hm : m = 0
  · have b2 : (m == 0) = true := beq_iff_eq.2 hm
    clear hm
    go_enter Try.func15, Try.ntmps15
    go_wp2_with fail
    all_goals
      go_ret
      exact ⟨by simp [*], below_alloc (Below.refl _ _) _⟩
  · have b2 : (m == 0) = false := beq_eq_false_iff_ne.2 hm
    clear hm
    go_enter Try.func15, Try.ntmps15
    go_wp2_with fail
    all_goals
      go_ret
      exact ⟨by simp [*], by first | exact below_alloc (Below.refl _ _) _ | exact ((below_alloc (Below.refl _ _) _).setCell (p := ⟨w.heap.size, 5, none⟩) (Nat.le_refl _) _).setCell (p := ⟨w.heap.size, 6, none⟩) (Nat.le_refl _) _⟩
set_option maxHeartbeats 4000000 in
theorem pright_work (w : World) (a : Mg) (hk : a.k ≠ 12) (hk' : a.k ≠ 13) : Calls Try.prog 15 #[mgV a] w fun e w' => e = .returned (.bool (decide a.right)) ∧ Below w.heap.size w w' := by
  rw [rightw hk hk']
  obtain ⟨k, u, l, s, x, m, y⟩ := a
  dsimp only at hk hk' ⊢
  have b1 : (k == 12) = false := beq_eq_false_iff_ne.2 hk
  have b2 : (k == 13) = false := beq_eq_false_iff_ne.2 hk'
  obtain ⟨W0, hW0⟩ : ∃ W0, W0 = w.alloc (mgC ⟨k, u, l, s, x, m, y⟩) := ⟨_, rfl⟩
  have hb0 : Below w.heap.size w W0 := by rw [hW0]; exact below_alloc (Below.refl _ _) _
  have hh : W0.heap[w.heap.size]? = some (.cells #[.int .i64 k, .int .i64 u, .int .u32 l, .int .u32 s, .bool x, .int .u32 m, .int .u32 y] 36 (0, 0)) := by rw [hW0]; exact heap_alloc_new w _
  have HB := Aside0.mk hb0
  have HH := Aside0.mk hh
  have HW := Aside0.mk hW0
  obtain ⟨⟨c0, c1, c2, c3, c4, c5, c6⟩, _⟩ := seven_frz hh
  have HR := Aside0.mk (fun W => luwright_calls W u l s)
  obtain ⟨r, hr⟩ : ∃ r, r = decide (luwP u s) := ⟨_, rfl⟩
  rw [← hr] at HR ⊢
  clear hk hk' hW0 hb0 hh hr
  have hc : k < 1 ∨ (1 ≤ k ∧ 12 ≤ k) ∨ (1 ≤ k ∧ k < 12) := by omega
  rcases hc with h | ⟨h, h2⟩ | ⟨h, h2⟩
  · have d1 : decide (1 ≤ k) = false := decide_eq_false (by omega)
    have d2 : ¬ 1 ≤ k := by omega
    clear h
    go_enter Try.func15, Try.ntmps15
    go_wp2_with fail
    rw [← HW.out]
    go_wp2_with fail
    all_goals
      go_ret
      exact ⟨by simp [d1, d2], HB.out⟩
  · have d1 : decide (k < 12) = false := decide_eq_false (by omega)
    have d2 : ¬ k < 12 := by omega
    clear h2
    go_enter Try.func15, Try.ntmps15
    go_wp2_with fail
    rw [← HW.out]
    go_wp2_with fail
    all_goals
      go_ret
      exact ⟨by simp [d1, d2], HB.out⟩
  · go_enter Try.func15, Try.ntmps15
    go_wp2_with fail
    rw [← HW.out]
    go_wp2_with fail
    refine (HR.out _).mono ?_
    rintro e w1 ⟨rfl, hb1⟩
    have HB1 := Aside0.mk (HB.out.trans (hb1.mono HB.out.size))
    obtain ⟨⟨c0, c1, c2, c3, c4, c5, c6⟩, _⟩ := seven_frz (blk_keep HH.out hb1)
    clear hb1
    cases r
    all_goals
      go_wp2_with fail
    all_goals
      go_ret
      exact ⟨by simp [*], HB1.out⟩
theorem pright_calls (w : World) (a : Mg) : Calls Try.prog 15 #[mgV a] w fun e w' => e = .returned (.bool (decide a.right)) ∧ Below w.heap.size w w' := by
  by_cases h : a.k = 12
  · exact pright_names w a h
  by_cases h' : a.k = 13
  · exact pright_refuse w a h'
  · exact pright_work w a h h'
end Go.Proofs.YtpkclecgaheplaaR.Oct
