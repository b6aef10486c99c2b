import Derived.Test.YtmdipdjgfdjhoaaFrameH
/- The document's May, front and Write. -/
namespace Go.Proofs.Ytmdipdjgfdjhoaa.Oct
open Go.RowKit Go.Proofs.YtmdipdjgfdjhoaaW.PrintWords Go.Proofs.Ytmdipdjgfdjhoaa.M
set_option linter.unusedVariables false
set_option linter.unusedSimpArgs false
set_option maxHeartbeats 1000000 in
theorem rmay_calls (w : World) (f : FR) (A : Option Addr) (c : Nat) (hl : f.d.length ≤ 9223372036854775807) : Calls Try.prog 20 #[.agg #[.int .u32 f.s, .int .i64 f.q, .int .i64 f.k, .slice A f.d.length c]] w fun e w' => e = .returned (.bool f.mayB) ∧ Below w.heap.size w w' := by
  by_cases hp : f.mayP
  · have HV := Aside0.mk (mayB_yes hp)
    obtain ⟨h1, ⟨h2, h3⟩, ⟨h4, h5⟩, h6⟩ := hp
    obtain ⟨s, q, k, d⟩ := f
    dsimp only at h1 h2 h3 h4 h5 h6 hl
    have b1 : (s == 0) = false := by simpa using h1
    have h6' : (d.length : Int) ≤ 256 := by omega
    have h3' : q < 65536 := by omega
    have h5' : k < 65536 := by omega
    clear h1 h6
    go_enter Try.func20, Try.ntmps20
    go_wp2
    go_ret
    rw [HV.out]
    exact ⟨rfl, below_alloc (Below.refl _ _) _⟩
  · have HV := Aside0.mk (mayB_no hp)
    have hc : f.s = 0 ∨ (f.s ≠ 0 ∧ 256 < (f.d.length : Int)) ∨ (f.s ≠ 0 ∧ ¬ 256 < (f.d.length : Int) ∧ f.q < 0) ∨ (f.s ≠ 0 ∧ ¬ 256 < (f.d.length : Int) ∧ 0 ≤ f.q ∧ ¬ f.q < 65536) ∨ (f.s ≠ 0 ∧ ¬ 256 < (f.d.length : Int) ∧ 0 ≤ f.q ∧ f.q < 65536 ∧ f.k < 0) ∨ (f.s ≠ 0 ∧ ¬ 256 < (f.d.length : Int) ∧ 0 ≤ f.q ∧ f.q < 65536 ∧ 0 ≤ f.k ∧ ¬ f.k < 65536) := by unfold FR.mayP at hp; omega
    clear hp
    obtain ⟨s, q, k, d⟩ := f
    dsimp only at hc hl
    rcases hc with h1 | ⟨h1, h2⟩ | ⟨h1, h2, h3⟩ | ⟨h1, h2, h3, h4⟩ | ⟨h1, h2, h3, h4, h5⟩ | ⟨h1, h2, h3, h4, h5, h6⟩
    · have b1 : (s == 0) = true := by simpa using h1
      clear h1
      go_enter Try.func20, Try.ntmps20
      go_wp2
      go_ret
      rw [HV.out]
      exact ⟨rfl, below_alloc (Below.refl _ _) _⟩
    all_goals
      have b1 : (s == 0) = false := by simpa using h1
      clear h1
      go_enter Try.func20, Try.ntmps20
      go_wp2
      go_ret
      rw [HV.out]
      exact ⟨by first | rfl | (simp <;> omega), below_alloc (Below.refl _ _) _⟩
theorem putM_two {v : Int} (h0 : 0 ≤ v) (h : v < 65536) : putM v 2 = (twoB v, 0) := by
  unfold putM
  rw [if_neg (by omega), if_neg (by simp; omega)]
  have e : beB v (2 : Int).toNat = twoB v := by
    show beB v 2 = twoB v
    unfold twoB
    simp [beB, List.range, List.range.loop, beAt]
  rw [e]
/-- a row that is apart from one that is appended to -/
theorem app_far {W W1 : World} {bv bu : Nat} {v v1 u : Value} {zs : List Int} (hg : W.grownBy W1 v.ownBlock) (hn : v1.ownBlock = v.ownBlock ∨ ∃ b, v1.ownBlock = some b ∧ W.heap.size ≤ b) (hu : QB W bu u zs) (hd : ∀ k, u.ownBlock = some k → v.ownBlock ≠ some k) :
    QB W1 bu u zs ∧ ∀ k, u.ownBlock = some k → v1.ownBlock ≠ some k := by
  refine ⟨hu.move (fun k hk => hg.block k (hu.block hk).2 (fun e => hd k hk e.symm)), fun k hk e => ?_⟩
  rcases hn with h | ⟨b, h, hb⟩
  · exact hd k hk (by rw [← h]; exact e)
  · have := (hu.block hk).2
    rw [h] at e
    injection e with e
    omega
theorem QB.later {W : World} {b1 b2 : Nat} {v u : Value} {xs zs : List Int} (hv : ∀ k, v.ownBlock = some k → k < b2) (hu : QB W b2 u zs) : ∀ k, u.ownBlock = some k → v.ownBlock ≠ some k := fun k hk e => by
  have := hv k e
  have := (hu.block hk).1
  omega
set_option maxHeartbeats 8000000 in
theorem rfront_calls (w : World) (f : FR) (A : Option Addr) (c : Nat) (hr : Kd.C (Kd.int .u8) w A f.d.length f.d) (hx : f.ok) (hp : f.mayP) : Calls Try.prog 21 #[.agg #[.int .u32 f.s, .int .i64 f.q, .int .i64 f.k, .slice A f.d.length c]] w (fun e w' => ∃ v, e = .returned v ∧ QB w' w.heap.size v f.front ∧ Below w.heap.size w w') := by
  have HR := Aside0.mk hr
  have hl : f.d.length ≤ 9223372036854775807 := hr.2.1
  have hd : f.d.length ≤ 256 := hp.2.2.2
  have hs := hx.1
  have hq := hp.2.1
  have hk := hp.2.2.1
  have HFT : Aside0 (f.front = (((beB f.s 4 ++ twoB f.q) ++ twoB f.k) ++ twoB (f.d.length : Int)) ++ f.d) := ⟨by unfold FR.front; simp⟩
  obtain ⟨fr, hfr⟩ : ∃ fr, fr = f.front := ⟨_, rfl⟩
  rw [← hfr] at HFT ⊢
  obtain ⟨s, q, k, d⟩ := f
  dsimp only at hs hq hk hd hl HFT HR
  obtain ⟨hs1, hs2⟩ := hs
  obtain ⟨hq1, hq2⟩ := hq
  obtain ⟨hk1, hk2⟩ := hk
  have hd' : (d.length : Int) ≤ 256 := by omega
  have HP4 := Aside0.mk (putM_four hs1 hs2)
  have HPQ := Aside0.mk (putM_two hq1 (by omega))
  have HPK := Aside0.mk (putM_two hk1 (by omega))
  have HPL := Aside0.mk (putM_two (v := (d.length : Int)) (by omega) (by omega))
  have HLX : Aside0 ((beB s 4).length = 4 ∧ (twoB q).length = 2 ∧ (twoB k).length = 2 ∧ (twoB (d.length : Int)).length = 2 ∧ d.length ≤ 256) := ⟨beB_length _ _, rfl, rfl, rfl, hd⟩
  obtain ⟨xa, hxa⟩ : ∃ xa, xa = beB s 4 := ⟨_, rfl⟩
  obtain ⟨xq, hxq⟩ : ∃ xq, xq = twoB q := ⟨_, rfl⟩
  obtain ⟨xk, hxk⟩ : ∃ xk, xk = twoB k := ⟨_, rfl⟩
  obtain ⟨xl, hxl⟩ : ∃ xl, xl = twoB (d.length : Int) := ⟨_, rfl⟩
  rw [← hxa, ← hxq, ← hxk, ← hxl] at HFT HLX
  rw [← hxa] at HP4
  rw [← hxq] at HPQ
  rw [← hxk] at HPK
  rw [← hxl] at HPL
  clear hr hx hp hfr hxa hxq hxk hxl hd
  go_enter Try.func21, Try.ntmps21
  go_wp2_with fail
  obtain ⟨w0, hw0⟩ : ∃ w0, w0 = w.alloc (.cells #[.int .u32 s, .int .i64 q, .int .i64 k, .slice A d.length c] 25) := ⟨_, rfl⟩
  have hb0 : Below w.heap.size w w0 := by rw [hw0]; exact below_alloc (Below.refl _ _) _
  have hh0 : w0.heap[w.heap.size]? = some (.cells #[.int .u32 s, .int .i64 q, .int .i64 k, .slice A d.length c] 25 (0, 0)) := by rw [hw0]; exact heap_alloc_new w _
  rw [← hw0]
  have HB0 := Aside0.mk hb0
  have HCL : Aside0 (∀ W, Below w0.heap.size w0 W → (W.cell? ⟨w.heap.size, 0, none⟩ = some (.int .u32 s) ∧ W.cell? ⟨w.heap.size, 1, none⟩ = some (.int .i64 q) ∧ W.cell? ⟨w.heap.size, 2, none⟩ = some (.int .i64 k) ∧ W.cell? ⟨w.heap.size, 3, none⟩ = some (.slice A d.length c)) ∧ Below w.heap.size w W) := ⟨fun W hW => by
    obtain ⟨e0, e1, e2, e3, _⟩ := four_cells (blk_keep hh0 hW)
    exact ⟨⟨e0, e1, e2, e3⟩, hb0.trans (hW.mono hb0.size)⟩⟩
  clear hw0 hb0 hh0
  refine (rput_calls _ s 4 hs1 (by omega)).mono ?_
  rintro e w1 ⟨v1, rfl, ho1, hb1⟩
  rw [HP4.out] at ho1 ⊢
  obtain ⟨A1, c1, rfl, _⟩ := ho1.reads
  have HQ1 := Aside0.mk (QB.of_OB ho1)
  have HB1 := Aside0.mk hb1
  clear ho1 hb1
  obtain ⟨⟨e0, e1, e2, e3⟩, _⟩ := HCL.out _ HB1.out
  go_wp2_with fail
  refine (rput_calls _ q 2 hq1 (by omega)).mono ?_
  rintro e w2 ⟨v2, rfl, ho2, hb2⟩
  rw [HPQ.out] at ho2 ⊢
  obtain ⟨A2, c2, rfl, _⟩ := ho2.reads
  have HQ2 := Aside0.mk (QB.of_OB ho2)
  have HB2 := Aside0.mk (HB1.out.trans (hb2.mono HB1.out.size))
  have HQ12 := Aside0.mk (HQ1.out.below hb2)
  clear ho2 hb2 e0 e1 e2 e3
  obtain ⟨⟨e0, e1, e2, e3⟩, _⟩ := HCL.out _ HB2.out
  go_wp2_with fail
  refine (rput_calls _ k 2 hk1 (by omega)).mono ?_
  rintro e w3 ⟨v3, rfl, ho3, hb3⟩
  rw [HPK.out] at ho3 ⊢
  obtain ⟨A3, c3, rfl, _⟩ := ho3.reads
  have HQ3 := Aside0.mk (QB.of_OB ho3)
  have HB3 := Aside0.mk (HB2.out.trans (hb3.mono HB2.out.size))
  have HQ13 := Aside0.mk (HQ12.out.below hb3)
  have HQ23 := Aside0.mk (HQ2.out.below hb3)
  clear ho3 hb3 e0 e1 e2 e3
  obtain ⟨⟨e0, e1, e2, e3⟩, _⟩ := HCL.out _ HB3.out
  go_wp2_with fail
  refine (rput_calls _ (d.length : Int) 2 (by omega) (by omega)).mono ?_
  rintro e w4 ⟨v4, rfl, ho4, hb4⟩
  rw [HPL.out] at ho4 ⊢
  obtain ⟨A4, c4, rfl, _⟩ := ho4.reads
  have HQ44 := Aside0.mk (QB.of_OB ho4)
  have HB4 := Aside0.mk (HB3.out.trans (hb4.mono HB3.out.size))
  have HQ14 := Aside0.mk (HQ13.out.below hb4)
  have HQ24 := Aside0.mk (HQ23.out.below hb4)
  have HQ34 := Aside0.mk (HQ3.out.below hb4)
  have HD2 : Aside0 (∀ k, (Value.slice A2 xq.length c2).ownBlock = some k → (Value.slice A1 xa.length c1).ownBlock ≠ some k) := ⟨QB.later (b1 := 0) (xs := []) (fun k hk => (HQ1.out.block hk).2) HQ2.out⟩
  have HD3 : Aside0 (∀ k, (Value.slice A3 xk.length c3).ownBlock = some k → (Value.slice A1 xa.length c1).ownBlock ≠ some k) := ⟨QB.later (b1 := 0) (xs := []) (fun k hk => (HQ12.out.block hk).2) HQ3.out⟩
  have HD4 : Aside0 (∀ k, (Value.slice A4 xl.length c4).ownBlock = some k → (Value.slice A1 xa.length c1).ownBlock ≠ some k) := ⟨QB.later (b1 := 0) (xs := []) (fun k hk => (HQ13.out.block hk).2) HQ44.out⟩
  have HBS4 := Aside0.mk HB4.out.size
  clear ho4 hb4 e0 e1 e2 e3
  obtain ⟨y5, hy5⟩ : ∃ y, y = xa ++ xq := ⟨_, rfl⟩
  obtain ⟨y6, hy6⟩ : ∃ y, y = y5 ++ xk := ⟨_, rfl⟩
  obtain ⟨y7, hy7⟩ : ∃ y, y = y6 ++ xl := ⟨_, rfl⟩
  rw [← hy5, ← hy6, ← hy7] at HFT
  have HY5 := Aside0.mk hy5
  have HY6 := Aside0.mk hy6
  have HY7 := Aside0.mk hy7
  have HYL : Aside0 (xa.length = 4 ∧ y5.length = 6 ∧ y6.length = 8 ∧ y7.length = 10 ∧ xq.length = 2 ∧ xk.length = 2 ∧ xl.length = 2 ∧ d.length ≤ 256) := ⟨by
    obtain ⟨h1, h2, h3, h4, h5⟩ := HLX.out
    have g5 : y5.length = 6 := by rw [hy5, List.length_append]; omega
    have g6 : y6.length = 8 := by rw [hy6, List.length_append]; omega
    have g7 : y7.length = 10 := by rw [hy7, List.length_append]; omega
    exact ⟨h1, g5, g6, g7, h2, h3, h4, h5⟩⟩
  clear hy5 hy6 hy7 HLX HPQ HPK HPL HP4 HQ1 HQ2 HQ3 HQ12 HQ13 HQ23 HB1 HB2 HB3
  go_wp2_with (first
    | ((with_reducible refine gate_dst (N := 42) rfl ?_); at_builtin; refine app_q w0.heap.size rfl (.tmp 40) (.tmp 41) rfl (.slice A1 xa.length c1) xa xq A2 xq.length c2 rfl rfl rfl HQ14.out HQ24.out.C HBS4.out (by have := HYL.out; omega) ?_; intro v5 w5 ho5 hg5 hn5; rw [← HY5.out] at ho5; have HQ5 := Aside0.mk ho5; have HF3 := Aside0.mk (app_far (bv := 0) hg5 hn5 HQ34.out HD3.out); have HF4 := Aside0.mk (app_far (bv := 0) hg5 hn5 HQ44.out HD4.out); have HB5 := Aside0.mk (HB4.out.grown hg5 HBS4.out (fun k hk => (HQ14.out.block hk).1)); clear ho5 hg5 hn5; obtain ⟨A5, c5, rfl, _⟩ := HQ5.out.form)
    | ((with_reducible refine gate_dst (N := 45) rfl ?_); at_builtin; refine app_q w0.heap.size rfl (.tmp 43) (.tmp 44) rfl (.slice A5 y5.length c5) y5 xk A3 xk.length c3 rfl rfl rfl HQ5.out HF3.out.1.C HB5.out.size (by have := HYL.out; omega) ?_; intro v6 w6 ho6 hg6 hn6; rw [← HY6.out] at ho6; have HQ6 := Aside0.mk ho6; have HF4' := Aside0.mk (app_far (bv := 0) hg6 hn6 HF4.out.1 HF4.out.2); have HB6 := Aside0.mk (HB5.out.grown hg6 HB5.out.size (fun k hk => (HQ5.out.block hk).1)); clear ho6 hg6 hn6; obtain ⟨A6, c6, rfl, _⟩ := HQ6.out.form)
    | ((with_reducible refine gate_dst (N := 48) rfl ?_); at_builtin; refine app_q w0.heap.size rfl (.tmp 46) (.tmp 47) rfl (.slice A6 y6.length c6) y6 xl A4 xl.length c4 rfl rfl rfl HQ6.out HF4'.out.1.C HB6.out.size (by have := HYL.out; omega) ?_; intro v7 w7 ho7 hg7 hn7; rw [← HY7.out] at ho7; have HQ7 := Aside0.mk ho7; have HB7 := Aside0.mk (HB6.out.grown hg7 HB6.out.size (fun k hk => (HQ6.out.block hk).1)); clear ho7 hg7 hn7; obtain ⟨A7, c7, rfl, _⟩ := HQ7.out.form; have HR7 := Aside0.mk (Kd.C_below HR.out (HCL.out _ HB7.out).2); obtain ⟨⟨e0, e1, e2, e3⟩, _⟩ := HCL.out _ HB7.out)
    | ((with_reducible refine gate_dst (N := 52) rfl ?_); at_builtin; refine app_q w0.heap.size rfl (.tmp 49) (.tmp 51) rfl (.slice A7 y7.length c7) y7 d A d.length c rfl rfl rfl HQ7.out HR7.out HB7.out.size (by have := HYL.out; omega) ?_; intro v8 w8 ho8 hg8 hn8; rw [← HFT.out] at ho8; have HQ8 := Aside0.mk ho8; have HB8 := Aside0.mk (HB7.out.grown hg8 HB7.out.size (fun k hk => (HQ7.out.block hk).1)); clear ho8 hg8 hn8 e0 e1 e2 e3))
  go_ret
  exact ⟨_, rfl, HQ8.out.lower HB0.out.size, (HCL.out _ HB8.out).2⟩
set_option maxHeartbeats 2000000 in
theorem rwrite_calls (w : World) (f : FR) (A : Option Addr) (c : Nat) (hr : Kd.C (Kd.int .u8) w A f.d.length f.d) (hx : f.ok) : Calls Try.prog 12 #[.agg #[.int .u32 f.s, .int .i64 f.q, .int .i64 f.k, .slice A f.d.length c]] w (RetFW w f.write) := by
  have HR := Aside0.mk hr
  have HX := Aside0.mk hx
  have hl : f.d.length ≤ 9223372036854775807 := hr.2.1
  by_cases hp : f.mayP
  · have HV := Aside0.mk (FR.write_good hp)
    have HM := Aside0.mk (mayB_yes hp)
    have HP := Aside0.mk hp
    have HFB := Aside0.mk (FR.front_bytes hx.2.2.2)
    have HFL := Aside0.mk (FR.front_len f)
    have hd : f.d.length ≤ 256 := hp.2.2.2
    have HD := Aside0.mk hd
    clear hr hx hp hd
    go_enter Try.func12, Try.ntmps12
    go_wp2_with fail
    have hb0 : Below w.heap.size w (w.alloc (.cells #[.int .u32 f.s, .int .i64 f.q, .int .i64 f.k, .slice A f.d.length c] 25)) := below_alloc (Below.refl _ _) _
    have hh0 := heap_alloc_new w (.cells #[.int .u32 f.s, .int .i64 f.q, .int .i64 f.k, .slice A f.d.length c] 25)
    refine (rmay_calls _ f A c hl).mono ?_
    rw [HM.out]
    rintro e w1 ⟨rfl, hb1⟩
    have HH1 := Aside0.mk (blk_keep hh0 hb1)
    have HB1 := Aside0.mk (hb0.trans (hb1.mono hb0.size))
    clear hb0 hh0 hb1
    obtain ⟨t0, t1, t2, t3, r0, r1, r2, r3⟩ := four_cells HH1.out
    go_wp2_with fail
    refine (rfront_calls _ f A c (Kd.C_below HR.out HB1.out) HX.out HP.out).mono ?_
    rintro e w2 ⟨v2, rfl, hq2, hb2⟩
    obtain ⟨A2, c2, rfl, _⟩ := hq2.form
    have HQ2 := Aside0.mk hq2
    have HB2 := Aside0.mk (HB1.out.trans (hb2.mono HB1.out.size))
    have HS12 := Aside0.mk hb2.size
    obtain ⟨fr, hfr⟩ : ∃ fr, fr = f.front := ⟨_, rfl⟩
    rw [← hfr] at HQ2 HV HFB HFL ⊢
    clear hq2 hb2 hfr t0 t1 t2 t3 r0 r1 r2 r3
    go_wp2_with fail
    refine (rsum_calls _ A2 c2 fr HQ2.out.C HFB.out).mono ?_
    rintro e w3 ⟨rfl, rfl⟩
    have HQ3 := HQ2
    have HB3 := HB2
    have HS23 := HS12
    have hsr := sumOf_range fr
    have HPS := Aside0.mk (putM_four hsr.1 hsr.2)
    obtain ⟨sm, hsm⟩ : ∃ sm, sm = sumOf fr := ⟨_, rfl⟩
    rw [← hsm] at HPS HV hsr ⊢
    obtain ⟨hs0, hs1⟩ := hsr
    clear hsm
    go_wp2_with fail
    refine (rput_calls _ sm 4 hs0 (by omega)).mono ?_
    rintro e w4 ⟨v4, rfl, ho4, hb4⟩
    rw [HPS.out] at ho4 ⊢
    obtain ⟨A4, c4, rfl, hr4⟩ := ho4.reads
    have HR4 := Aside0.mk hr4
    have HQ4 := Aside0.mk (HQ3.out.below hb4)
    have HB4 := Aside0.mk (HB3.out.trans (hb4.mono HB3.out.size))
    have HS34 := Aside0.mk (Nat.le_trans HS23.out hb4.size)
    obtain ⟨z, hz⟩ : ∃ z, z = beB sm 4 := ⟨_, rfl⟩
    have HZL : Aside0 (z.length = 4) := ⟨by rw [hz]; exact beB_length _ _⟩
    rw [← hz] at HR4 HV ⊢
    have HLL : Aside0 (fr.length + z.length ≤ 140737488355328) := ⟨by have h1 := HFL.out; have h2 := HZL.out; have h3 := HD.out; omega⟩
    clear ho4 hb4 hr4 hz
    go_wp2_with ((with_reducible refine gate_dst (N := 21) rfl ?_); at_builtin; refine app_q w1.heap.size rfl (.tmp 19) (.tmp 20) rfl (.slice A2 fr.length c2) fr z A4 z.length c4 rfl rfl rfl HQ4.out HR4.out HS34.out HLL.out ?_; intro v7 w7 ho7 hg7 _; have HQ7 := Aside0.mk ho7; have HB7 := Aside0.mk (HB4.out.grown hg7 HB4.out.size (fun k hk => Nat.le_trans HB1.out.size (HQ4.out.block hk).1)); clear ho7 hg7)
    go_ret2
    rw [HV.out]
    exact ⟨_, rfl, HQ7.out.lower HB1.out.size, HB7.out⟩
  · have HV := Aside0.mk (FR.write_bad hp)
    have HM := Aside0.mk (mayB_no hp)
    clear hr hx hp
    go_enter Try.func12, Try.ntmps12
    go_wp2_with fail
    have hb0 : Below w.heap.size w (w.alloc (.cells #[.int .u32 f.s, .int .i64 f.q, .int .i64 f.k, .slice A f.d.length c] 25)) := below_alloc (Below.refl _ _) _
    refine (rmay_calls _ f A c hl).mono ?_
    rw [HM.out]
    rintro e w1 ⟨rfl, hb1⟩
    have HB1 := Aside0.mk (hb0.trans (hb1.mono hb0.size))
    clear hb0 hb1
    go_wp2_with fail
    go_ret2
    rw [HV.out]
    exact ⟨_, rfl, QB.nil _ _, HB1.out⟩
end Go.Proofs.Ytmdipdjgfdjhoaa.Oct
