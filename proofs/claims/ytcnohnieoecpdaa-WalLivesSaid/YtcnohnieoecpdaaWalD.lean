import Derived.Test.YtcnohnieoecpdaaWalC
/- the law's alive. -/
namespace Go.Proofs.Ytcnohnieoecpdaa.M
theorem readL_nil (at_ : Nat) : readL at_ [] = [] := readL_no (b := []) (fun h => by have h1 := h.1; exact absurd h1 (by decide)) at_
theorem readL_one {r : Rc} (hg : r.good) : readL 0 r.all = [(r.all.length, r)] := by
  have := readL_all hg [] 0
  rw [List.append_nil, readL_nil, Nat.zero_add] at this
  exact this
end Go.Proofs.Ytcnohnieoecpdaa.M
namespace Go.Proofs.Ytcnohnieoecpdaa.Oct
open Go.RowKit Go.Proofs.YtcnohnieoecpdaaW.PrintWords Go.Proofs.Ytcnohnieoecpdaa.M
set_option linter.unusedVariables false
set_option linter.unusedSimpArgs false
theorem open_nil (w : World) : Calls Try.prog 21 #[.pointer none] w fun e w' => e = .returned (.tuple #[.pointer none, .slice none 0 0, .int .i64 6]) ∧ w' = w := by
  go_enter Try.func21, Try.ntmps21
  go_wp2
  refine bodyPost_ret (v := .tuple #[.pointer none, .slice none 0 0, .int .i64 6]) (by simp [results, Try.results21, go_sem]) rfl ?_
  exact ⟨rfl, rfl⟩
abbrev r7 : Rc := (7, [1, 2])
theorem r7_good : r7.good := by decide
theorem r7_bytes : Bytes r7.2 := by intro y hy; simp at hy; rcases hy with rfl | rfl <;> (unfold Byte; omega)
set_option maxHeartbeats 4000000 in
theorem alive_calls (w : World) : Calls Try.prog 11 #[] w fun e w' => e = .returned (.bool true) ∧ Below w.heap.size w w' := by
  have HB0 : Aside0 (Below w.heap.size w (w.alloc (.cells #[.int .u8 1, .int .u8 2] 5))) := ⟨below_alloc (Below.refl _ _) _⟩
  have HC0 : Aside0 (Kd.C (Kd.int .u8) (w.alloc (.cells #[.int .u8 1, .int .u8 2] 5)) (some ⟨w.heap.size, 0, none⟩) r7.2.length r7.2) := ⟨(lit_at w w.heap.size w.heap.size [1, 2] rfl (Nat.le_refl _) (by simp)).C⟩
  have HW1 := Aside0.mk (wwrite_calls _ r7 (some ⟨w.heap.size, 0, none⟩) 2 HC0.out r7_bytes)
  rw [writeR_good r7_good] at HW1
  go_enter Try.func11, Try.ntmps11
  go_wp2_with (go_at_call 12; refine HW1.out.mono ?_)
  rintro e w1 ⟨v1, rfl, hq1, hb1⟩
  dsimp only at hq1 hb1
  have hl : r7.all.length = 9 := by rw [Rc.all_len]; rfl
  obtain ⟨A1, c1, rfl, hc1, hc1m, hr1⟩ := hq1.form
  obtain ⟨_, g1, o1, rfl, _⟩ := hq1.pos (show 0 < r7.all.length by rw [hl]; decide)
  have HC1 := Aside0.mk hc1
  have HR1 := Aside0.mk hr1
  have HB1 := Aside0.mk (HB0.out.trans (hb1.mono HB0.out.size))
  clear hc1 hc1m hr1 hb1 hq1 HW1 HC0
  have HW2 := Aside0.mk (wwrite_calls w1 ((0, []) : Rc) none 0 (Kd.C_nil _ _) (fun y hy => by cases hy))
  rw [writeR_kind (r := ((0, []) : Rc)) (.inl (by decide))] at HW2
  go_wp2_with (go_at_call 12; refine HW2.out.mono ?_)
  rintro e w2 ⟨v2, rfl, hq2, hb2⟩
  obtain ⟨A2, c2, rfl, _⟩ := hq2.form
  have HR2 := Aside0.mk (Kd.C_below HR1.out hb2)
  have HB2 := Aside0.mk (HB1.out.trans (hb2.mono HB1.out.size))
  clear hq2 hb2 HW2 HR1
  go_wp2_with (go_at_call 21; refine (open_nil _).mono ?_; rintro e w' ⟨rfl, hw'⟩; have hw' := hw'.symm; subst hw')
  have HW4 := Aside0.mk (wread_calls w2 r7.all (some ⟨g1, o1, none⟩) c1 HC1.out HR2.out (Rc.all_bytes r7_good r7_bytes) (by rw [hl]; decide))
  go_wp2_with (go_at_call 15; refine HW4.out.mono ?_)
  rintro e w4 ⟨v4, rfl, hrw, hb4⟩
  rw [readL_one r7_good] at hrw ⊢
  obtain ⟨A4, c4, rfl⟩ := hrw.form
  have HB4 := Aside0.mk (HB2.out.trans (hb4.mono HB2.out.size))
  obtain ⟨ad, had, hx⟩ := C_byte (Kd.C_below HR2.out hb4) (show 2 < r7.all.length by rw [hl]; decide)
  injection had with had
  subst had
  rw [show r7.all.getD 2 0 = 7 from rfl, show (⟨g1, o1, none⟩ : Addr).add 2 = ⟨g1, o1 + 2, none⟩ from rfl] at hx
  rw [show endL [(r7.all.length, r7)] = 9 by rw [hl]; rfl, show ((List.map (fun x : Nat × Rc => x.2) [(r7.all.length, r7)]).length) = 1 from rfl]
  try rw [hl]
  clear hrw hb4 HR2 HC1 HW4 HB0 HB1
  go_wp2_with fail
  go_ret
  exact ⟨rfl, HB4.out⟩
end Go.Proofs.Ytcnohnieoecpdaa.Oct
