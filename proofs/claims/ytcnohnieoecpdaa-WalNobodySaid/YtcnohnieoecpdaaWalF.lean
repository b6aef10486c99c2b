import Derived.Test.YtcnohnieoecpdaaWalE
/- WalNobody. -/
namespace Go.Proofs.Ytcnohnieoecpdaa.Oct
open Go.RowKit Go.Proofs.YtcnohnieoecpdaaW.PrintWords Go.Proofs.Ytcnohnieoecpdaa.M
set_option linter.unusedVariables false
set_option linter.unusedSimpArgs false
set_option maxHeartbeats 4000000 in
theorem wnobody_calls (w : World) (r : Rc) (A : Option Addr) (c : Nat) (f : Bool) (hr : r.2.length ≤ 140737488355328) :
    Calls Try.prog 8 #[.agg #[.int .i64 r.1, .slice A r.2.length c], .bool f] w (Yes w) := by
  obtain ⟨k, d⟩ := r
  dsimp only at hr ⊢
  obtain ⟨n, hn⟩ : ∃ n, n = d.length := ⟨_, rfl⟩
  rw [← hn] at hr ⊢
  clear hn
  have HH : Aside0 ((w.alloc (.cells #[.int .i64 k, .slice A n c] 24)).heap[w.heap.size]? = some (.cells #[.int .i64 k, .slice A n c] 24 (0, 0))) := ⟨heap_alloc_new w _⟩
  have HB0 : Aside0 (Below w.heap.size w (w.alloc (.cells #[.int .i64 k, .slice A n c] 24))) := ⟨below_alloc (Below.refl _ _) _⟩
  cases hlb : longB n with
  | true =>
    go_enter Try.func8, Try.ntmps8
    go_wp2_with fail
    refine (long_calls _ k A n c hr).mono ?_
    rw [hlb]
    rintro e w1 ⟨rfl, hb1⟩
    have HB1 := Aside0.mk (HB0.out.trans (hb1.mono HB0.out.size))
    clear hb1
    go_wp2_with fail
    refine (alive_calls _).mono ?_
    rintro e w3 ⟨rfl, hb3⟩
    have HB3 := Aside0.mk (HB1.out.trans (hb3.mono HB1.out.size))
    clear hb3
    go_wp2_with fail
    go_ret
    exact ⟨rfl, HB3.out⟩
  | false =>
    go_enter Try.func8, Try.ntmps8
    go_wp2_with fail
    refine (long_calls _ k A n c hr).mono ?_
    rw [hlb]
    rintro e w1 ⟨rfl, hb1⟩
    have HB1 := Aside0.mk (HB0.out.trans (hb1.mono HB0.out.size))
    have HH1 := Aside0.mk (blk_keep HH.out hb1)
    clear hb1
    go_wp2_with fail
    obtain ⟨W2, hW2⟩ : ∃ W2, W2 = (w1.alloc (.cells #[.pointer none, .slice none 0 0] 55)).alloc (.cells #[.int .i64 0, .slice none 0 0, .int .i64 0] 57) := ⟨_, rfl⟩
    obtain ⟨p6, hp6⟩ : ∃ p6, p6 = w1.heap.size := ⟨_, rfl⟩
    have hbw : Below w1.heap.size w1 W2 := by rw [hW2]; exact below_alloc (below_alloc (Below.refl _ _) _) _
    have ho : W2.heap[p6 + 1]? = some (.cells #[.int .i64 0, .slice none 0 0, .int .i64 0] 57 (0, 0)) := by rw [hW2, hp6]; exact heap_alloc_new' (w1.alloc _) _ _ (by simp)
    have hm : W2.heap[p6]? = some (.cells #[.pointer none, .slice none 0 0] 55 (0, 0)) := by rw [hW2, hp6]; exact blk_keep (heap_alloc_new w1 _) (below_alloc (Below.refl _ _) _)
    have HB2 := Aside0.mk (HB1.out.trans (hbw.mono HB1.out.size))
    have HH2 := Aside0.mk (blk_keep HH1.out hbw)
    have HM2 : Aside0 (NoLog W2 (.pointer (some ⟨p6, 0, none⟩))) := ⟨.inr ⟨p6, rfl, hm⟩⟩
    have HO := Aside0.mk ho
    rw [← hp6, ← hW2]
    clear hW2 hp6 hbw ho hm
    refine (open_zero W2 (p6 + 1) (.int .i64 0) _ _ HO.out).mono ?_
    rintro e w' ⟨rfl, hw'⟩
    have hw' := hw'.symm
    subst hw'
    go_wp2_with fail
    refine (alive_calls _).mono ?_
    rintro e w3 ⟨rfl, hb3⟩
    have HB3 := Aside0.mk (HB2.out.trans (hb3.mono HB2.out.size))
    have HM3 := Aside0.mk (HM2.out.below hb3)
    obtain ⟨c0, c1, _, _⟩ := two_cells' (blk_keep HH2.out hb3)
    have HH3 := Aside0.mk (blk_keep HH2.out hb3)
    clear hb3
    go_wp2_with fail
    refine (add_no _ _ k A n c f (.inl rfl)).mono ?_
    rintro e w4 ⟨rfl, hb4⟩
    have HB4 := Aside0.mk (HB3.out.trans (hb4.mono HB3.out.size))
    have HM4 := Aside0.mk (HM3.out.below hb4)
    obtain ⟨d0, d1, _, _⟩ := two_cells' (blk_keep HH3.out hb4)
    clear hb4 c0 c1
    go_wp2_with fail
    refine (add_no _ _ k A n c f HM4.out).mono ?_
    rintro e w5 ⟨rfl, hb5⟩
    have HB5 := Aside0.mk (HB4.out.trans (hb5.mono HB4.out.size))
    have HM5 := Aside0.mk (HM4.out.below hb5)
    clear hb5 d0 d1
    go_wp2_with (first
      | (go_at_call 29; refine (swap_no _ _ _ (by first | exact HM5.out | exact .inl rfl)).mono ?_; rintro e w' ⟨rfl, hw'⟩; have hw' := hw'.symm; subst hw')
      | (go_at_call 26; refine (records_no _ _ (by first | exact HM5.out | exact .inl rfl)).mono ?_; rintro e w' ⟨rfl, hw'⟩; have hw' := hw'.symm; subst hw')
      | (go_at_call 30; refine (room_no _ _ (by first | exact HM5.out | exact .inl rfl)).mono ?_; rintro e w' ⟨rfl, hw'⟩; have hw' := hw'.symm; subst hw'))
    go_ret
    exact ⟨rfl, HB5.out⟩
end Go.Proofs.Ytcnohnieoecpdaa.Oct
