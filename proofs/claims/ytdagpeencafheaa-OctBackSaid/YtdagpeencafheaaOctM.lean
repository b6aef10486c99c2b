import Derived.Test.YtdagpeencafheaaOctL
namespace Go.Proofs.Ytdagpeencafheaa.Oct
open Go.RowKit Go.Proofs.YtdagpeencafheaaW.PrintWords Go.Proofs.Ytdagpeencafheaa.M
set_option linter.unusedVariables false
set_option linter.unusedSimpArgs false
theorem blk_keep {W W' : World} {b : Nat} {o : Obj} (h : W.heap[b]? = some o) (hb : Below W.heap.size W W') : W'.heap[b]? = some o := (hb.block b (Array.getElem?_eq_some_iff.1 h).1).trans h
set_option maxHeartbeats 800000 in
theorem digits_calls (w : World) (A : Option Addr) (c : Nat) (xs : List Int) (s : ByteArray) (hr : Kd.C (Kd.int .u8) w A xs.length xs) (hb : Bytes xs) (hss : s.size ≤ 140737488351232) :
    Calls Try.prog 8 #[.slice A xs.length c, .string s] w (Yes w) := by
  have HR := Aside0.mk hr
  have HX := Aside0.mk hb
  have hlen : xs.length ≤ 9223372036854775807 := hr.2.1
  clear hr hb
  by_cases h1 : 2000 < (xs.length : Int)
  · go_enter Try.func8, Try.ntmps8
    go_wp2_with (go_at_call 12; refine (alive_calls _).mono ?_; rintro e w1 ⟨rfl, hb⟩)
    go_ret
    exact ⟨rfl, hb⟩
  by_cases h2 : 4000 < (s.size : Int)
  · go_enter Try.func8, Try.ntmps8
    go_wp2_with (go_at_call 12; refine (alive_calls _).mono ?_; rintro e w1 ⟨rfl, hb⟩)
    go_ret
    exact ⟨rfl, hb⟩
  go_enter Try.func8, Try.ntmps8
  go_wp2_with fail
  refine (unhex_calls _ s (by omega)).mono ?_
  rintro e w1 ⟨r1, rfl, ho1, hb1⟩
  obtain ⟨m, hm⟩ : ∃ m, m = unhexM (bytesOf s) := ⟨_, rfl⟩
  rw [← hm] at ho1 ⊢
  have HM := Aside0.mk hm
  have HO1 := Aside0.mk ho1
  have HB1 := Aside0.mk hb1
  clear ho1 hb1 hm
  go_wp2_with fail
  have hbA := below_alloc HB1.out (.cells #[.int .i64 m.2.1, .int .i64 m.2.2] 42)
  have hkA := heap_alloc_new w1 (.cells #[.int .i64 m.2.1, .int .i64 m.2.2] 42)
  have hoA := (HO1.out : w1.ownsRow _ _ _ _ _ _).alloc (.cells #[.int .i64 m.2.1, .int .i64 m.2.2] 42)
  refine (runhex_calls _ s (by omega)).mono ?_
  rintro e w2 ⟨r2, rfl, ho2, hb2⟩
  rw [← HM.out] at ho2 ⊢
  have HB2 := Aside0.mk (hbA.trans (hb2.mono hbA.size))
  have HK1 := Aside0.mk (blk_keep hkA hb2)
  have HOA := Aside0.mk (OB.below hoA hb2)
  have HO2 := Aside0.mk ho2
  clear ho2 hb2 hbA hkA hoA HO1 HB1
  go_wp2_with fail
  have hbB := below_alloc HB2.out (.cells #[.int .i64 m.2.1, .int .i64 m.2.2] 42)
  have hkB := heap_alloc_new w2 (.cells #[.int .i64 m.2.1, .int .i64 m.2.2] 42)
  have hkC := blk_keep HK1.out (below_alloc (Below.refl _ w2) (.cells #[.int .i64 m.2.1, .int .i64 m.2.2] 42))
  have hoB := (HO2.out : w2.ownsRow _ _ _ _ _ _).alloc (.cells #[.int .i64 m.2.1, .int .i64 m.2.2] 42)
  have hoC := (HOA.out : w2.ownsRow _ _ _ _ _ _).alloc (.cells #[.int .i64 m.2.1, .int .i64 m.2.2] 42)
  refine (alive_calls _).mono ?_
  rintro e w3 ⟨rfl, hb3⟩
  have HB3 := Aside0.mk (hbB.trans (hb3.mono hbB.size))
  have HK3 := Aside0.mk (blk_keep hkB hb3)
  have HK4 := Aside0.mk (blk_keep hkC hb3)
  have HO3 := Aside0.mk (OB.below hoB hb3)
  have HO4 := Aside0.mk (OB.below hoC hb3)
  clear hb3 hbB hkB hkC hoB hoC HK1 HOA HO2
  go_wp2_with fail
  refine (hex_calls _ A c xs (Kd.C_below HR.out HB3.out) HX.out (by omega)).mono ?_
  rintro e w4 ⟨rfl, hb4⟩
  have HB4 := Aside0.mk (HB3.out.trans (hb4.mono HB3.out.size))
  have HK5 := Aside0.mk (blk_keep HK3.out hb4)
  have HK6 := Aside0.mk (blk_keep HK4.out hb4)
  have HO5 := Aside0.mk (OB.below HO3.out hb4)
  have HO6 := Aside0.mk (OB.below HO4.out hb4)
  clear hb4 HK3 HK4 HO3 HO4
  go_wp2_with fail
  refine (rhex_calls _ A c xs (Kd.C_below HR.out HB4.out) HX.out (by omega)).mono ?_
  rintro e w5 ⟨rfl, hb5⟩
  have HB5 := Aside0.mk (HB4.out.trans (hb5.mono HB4.out.size))
  obtain ⟨c0, c1, _, _⟩ := two_cells (W' := w5) (blk_keep HK5.out hb5)
  obtain ⟨c2, c3, _, _⟩ := two_cells (W' := w5) (blk_keep HK6.out hb5)
  have hs1 := (HO5.out.below hb5).string
  have hs2 := (HO6.out.below hb5).string
  clear hb5 HK5 HK6 HO5 HO6
  go_wp2_with fail
  go_ret
  exact ⟨rfl, HB5.out⟩
theorem digits_row (a0 : Option Addr) (len0 cap0 : Nat) (z0 : List Int) (a1 : ByteArray) (w : World) (w0 : InRow w a0 len0 cap0 z0) (y0 : len0 * 1 ≤ 140737488351232) (w1 : a1.size ≤ 140737488351232) :
    Calls Try.prog 8 #[.slice a0 len0 cap0, .string a1] w fun e w' => e = .returned (.bool true) ∧ Below w.heap.size w w' := by
  obtain ⟨l0, rfl, hr, hx, _⟩ := in_row w0
  exact digits_calls w a0 cap0 l0 a1 hr hx w1
end Go.Proofs.Ytdagpeencafheaa.Oct
