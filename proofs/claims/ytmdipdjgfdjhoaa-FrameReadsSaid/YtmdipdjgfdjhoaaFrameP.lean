import Derived.Test.YtmdipdjgfdjhoaaFrameO
/- The document's Read. -/
namespace Go.Proofs.Ytmdipdjgfdjhoaa.Oct
open Go.RowKit Go.Proofs.YtmdipdjgfdjhoaaW.PrintWords Go.Proofs.Ytmdipdjgfdjhoaa.M
set_option linter.unusedVariables false
set_option linter.unusedSimpArgs false
theorem C_lit {W : World} {ad : Addr} {n : Nat} {xs : List Int} (h : Kd.C (Kd.int .u8) W (some ad) n xs) {k : Nat} (hk : k + 1 < n) : W.cell? ⟨ad.block, ad.off + (k + 1), none⟩ = some (.int .u8 (xs.getD (k + 1) 0)) := by
  obtain ⟨ad', e, hc⟩ := C_byte h hk
  injection e with e
  subst e
  exact hc
def RetFRq (w : World) (r : FR × Int) (e : Ending) (w' : World) : Prop := ∃ A c, e = .returned (.tuple #[.agg #[.int .u32 r.1.s, .int .i64 r.1.q, .int .i64 r.1.k, .slice A r.1.d.length c], .int .i64 r.2]) ∧ QB w' w.heap.size (.slice A r.1.d.length c) r.1.d ∧ Below w.heap.size w w'
theorem retfrq_zero {w w' : World} {b : List Int} {n : Int} (h : readF b = (FR.zero, n)) (hb : Below w.heap.size w w') : RetFRq w (readF b) (.returned (.tuple #[.agg #[.int .u32 0, .int .i64 0, .int .i64 0, .slice none 0 0], .int .i64 n])) w' := by
  rw [h]
  exact ⟨none, 0, rfl, QB.nil _ _, hb⟩
theorem QB.set4 {W : World} {base base' g : Nat} {v : Value} {xs : List Int} (h : QB W base v xs) (hg : g < base) (hb : base' ≤ base) (y0 y1 y2 y3 : Value) : QB ((((W.setCell ⟨g, 0, none⟩ y0).setCell ⟨g, 1, none⟩ y1).setCell ⟨g, 2, none⟩ y2).setCell ⟨g, 3, none⟩ y3) base' v xs :=
  QB.lower (h.move (fun k hk => set4_far _ _ _ _ _ _ k (fun e => by have := (h.block hk).1; omega))) hb
theorem lenAt_two {b : List Int} (hb : Bytes b) : 256 * b.getD 8 0 + b.getD 9 0 = ((lenAt b : Nat) : Int) := by
  have h8 := hb.getD 8
  have h9 := hb.getD 9
  unfold Byte at h8 h9
  unfold lenAt
  omega
theorem two_at {b : List Int} {k : Nat} (h : k + 2 ≤ b.length) : getF ((b.drop k).take 2) = 256 * b.getD k 0 + b.getD (k + 1) 0 := by
  rw [drop_take_two h, getF_pair]
theorem rget_at (w : World) (A : Option Addr) (n c : Nat) (xs : List Int) (hn : n = xs.length) (hr : Kd.C (Kd.int .u8) w A xs.length xs) (hx : Bytes xs) (h1 : 1 ≤ n) (h8 : n ≤ 8) (v : Int) (hv : v = getF xs) :
    Calls Try.prog 26 #[.slice A n c] w fun e w' => e = .returned (.tuple #[.int .u64 v, .int .i64 0]) ∧ w' = w := by
  subst hn
  refine (rget_calls w A c xs hr hx).mono ?_
  rw [getM_good h1 h8, hv]
  rintro e w' ⟨rfl, h⟩
  exact ⟨rfl, h⟩
theorem rsum_at (w : World) (A : Option Addr) (n c : Nat) (xs : List Int) (hn : n = xs.length) (hr : Kd.C (Kd.int .u8) w A xs.length xs) (hx : Bytes xs) (v : Int) (hv : v = sumOf xs) :
    Calls Try.prog 23 #[.slice A n c] w fun e w' => e = .returned (.int .u32 v) ∧ w' = w := by
  subst hn hv
  exact rsum_calls w A c xs hr hx
set_option maxHeartbeats 1000000 in
theorem rread_tiny (w : World) (A : Option Addr) (c : Nat) (b : List Int) (hl : b.length < 14) : Calls Try.prog 15 #[.slice A b.length c] w (RetFRq w (readF b)) := by
  have HV : Aside0 (readF b = (FR.zero, 11)) := ⟨by unfold readF; rw [if_pos hl]⟩
  have h1 : (b.length : Int) < 14 := by omega
  clear hl
  go_enter Try.func15, Try.ntmps15
  go_wp2_with fail
  refine bodyPost_ret (v := .tuple #[.agg #[.int .u32 0, .int .i64 0, .int .i64 0, .slice none 0 0], .int .i64 11]) (by simp [results, Try.results15, go_sem]) rfl ?_
  refine retfrq_zero HV.out ?_
  exact below_alloc (Below.refl _ _) _
set_option maxHeartbeats 8000000 in
theorem rread_short (w : World) (A : Option Addr) (c : Nat) (b : List Int) (hr : Kd.C (Kd.int .u8) w A b.length b) (hx : Bytes b) (hc : b.length ≤ c) (hl : 14 ≤ b.length) (h2 : b.length < 14 + lenAt b) : Calls Try.prog 15 #[.slice A b.length c] w (RetFRq w (readF b)) := by
  obtain ⟨ad, rfl, _⟩ := C_byte hr (k := 0) (by omega)
  have hn2 := (lenAt_get hx hl).2
  have h8 := hx.getD 8
  have h9 := hx.getD 9
  have e89 := lenAt_two hx
  have hb0 : Below w.heap.size w (w.alloc (.cells #[.int .u32 0, .int .i64 0, .int .i64 0, .slice none 0 0] 25)) := below_alloc (Below.refl _ _) _
  have hr0 := Kd.C_below hr hb0
  have c8 := C_lit hr0 (k := 7) (by omega)
  have c9 := C_lit hr0 (k := 8) (by omega)
  simp only [Nat.reduceAdd] at c8 c9
  have HR := Aside0.mk hr
  have HX := Aside0.mk hx
  have hbl : b.length ≤ 9223372036854775807 := hr.2.1
  have h14 : (14 : Int) ≤ (b.length : Int) := by omega
  have h14c : (14 : Int) ≤ (c : Int) := by omega
  have hbc : (b.length : Int) ≤ (c : Int) := by omega
  have i8 : (8 : Int) < (b.length : Int) := by omega
  have i9 : (9 : Int) < (b.length : Int) := by omega
  have HB0 := Aside0.mk hb0
  have HH0 : Aside0 ((w.alloc (.cells #[.int .u32 0, .int .i64 0, .int .i64 0, .slice none 0 0] 25)).heap[w.heap.size]? = some (.cells #[.int .u32 0, .int .i64 0, .int .i64 0, .slice none 0 0] 25 (0, 0))) := ⟨heap_alloc_new w _⟩
  have HV := Aside0.mk (readF_short hl h2)
  obtain ⟨n, hn⟩ : ∃ n, n = lenAt b := ⟨_, rfl⟩
  have HNE := Aside0.mk hn
  rw [← hn] at hn2 e89 h2
  obtain ⟨B8, hB8⟩ : ∃ x, x = b.getD 8 0 := ⟨_, rfl⟩
  obtain ⟨B9, hB9⟩ : ∃ x, x = b.getD 9 0 := ⟨_, rfl⟩
  rw [← hB8] at h8 c8 e89
  rw [← hB9] at h9 c9 e89
  obtain ⟨h80, h81⟩ := h8
  obtain ⟨h90, h91⟩ := h9
  have m8 : IntKind.i64.wrap (256 * B8) = 256 * B8 := IntWalk.i64_in _ (by omega)
  have m89 : IntKind.i64.wrap (256 * B8 + B9) = (n : Int) := by rw [IntWalk.i64_in _ (by omega)]; omega
  have g1 : (b.length : Int) < 14 + (n : Int) := by omega
  clear hr hx hl hn hB8 hB9 hb0 hr0 hc h2
  go_enter Try.func15, Try.ntmps15
  go_wp2_with fail
  go_quiet (fail)
  obtain ⟨w1, hw1⟩ : ∃ w1, w1 = (w.alloc (.cells #[.int .u32 0, .int .i64 0, .int .i64 0, .slice none 0 0] 25)).drewN nq := ⟨_, rfl⟩
  have hb1 := below_draws (w.alloc (.cells #[.int .u32 0, .int .i64 0, .int .i64 0, .slice none 0 0] 25)) nq
  rw [← hw1] at hb1 ⊢
  have HB1 := Aside0.mk (HB0.out.trans (hb1.mono HB0.out.size))
  have HH1 := Aside0.mk (blk_keep HH0.out hb1)
  clear hb1 hw1 c8 c9 m8 m89 e89 h80 h81 h90 h91 HB0 HH0 i8 i9
  obtain ⟨c0, c1, c2, c3, f0, f1, f2, f3⟩ := four_cells HH1.out
  go_wp2_with fail
  refine bodyPost_ret (v := .tuple #[.agg #[.int .u32 0, .int .i64 0, .int .i64 0, .slice none 0 0], .int .i64 11]) (by simp [results, Try.results15, go_sem, c0, c1, c2, c3, f0, f1, f2, f3]) rfl ?_
  exact retfrq_zero HV.out (below_set4 HB1.out (Nat.le_refl _) _ _ _ _)
set_option maxHeartbeats 8000000 in
theorem rread_long (w : World) (A : Option Addr) (c : Nat) (b : List Int) (hr : Kd.C (Kd.int .u8) w A b.length b) (hx : Bytes b) (hc : b.length ≤ c) (hl : 14 ≤ b.length) (h2 : 14 + lenAt b < b.length) : Calls Try.prog 15 #[.slice A b.length c] w (RetFRq w (readF b)) := by
  obtain ⟨ad, rfl, _⟩ := C_byte hr (k := 0) (by omega)
  have hn2 := (lenAt_get hx hl).2
  have h8 := hx.getD 8
  have h9 := hx.getD 9
  have e89 := lenAt_two hx
  have hb0 : Below w.heap.size w (w.alloc (.cells #[.int .u32 0, .int .i64 0, .int .i64 0, .slice none 0 0] 25)) := below_alloc (Below.refl _ _) _
  have hr0 := Kd.C_below hr hb0
  have c8 := C_lit hr0 (k := 7) (by omega)
  have c9 := C_lit hr0 (k := 8) (by omega)
  simp only [Nat.reduceAdd] at c8 c9
  have HR := Aside0.mk hr
  have HX := Aside0.mk hx
  have hbl : b.length ≤ 9223372036854775807 := hr.2.1
  have h14 : (14 : Int) ≤ (b.length : Int) := by omega
  have h14c : (14 : Int) ≤ (c : Int) := by omega
  have hbc : (b.length : Int) ≤ (c : Int) := by omega
  have i8 : (8 : Int) < (b.length : Int) := by omega
  have i9 : (9 : Int) < (b.length : Int) := by omega
  have HB0 := Aside0.mk hb0
  have HH0 : Aside0 ((w.alloc (.cells #[.int .u32 0, .int .i64 0, .int .i64 0, .slice none 0 0] 25)).heap[w.heap.size]? = some (.cells #[.int .u32 0, .int .i64 0, .int .i64 0, .slice none 0 0] 25 (0, 0))) := ⟨heap_alloc_new w _⟩
  have HV := Aside0.mk (readF_long hl h2)
  obtain ⟨n, hn⟩ : ∃ n, n = lenAt b := ⟨_, rfl⟩
  have HNE := Aside0.mk hn
  rw [← hn] at hn2 e89 h2
  obtain ⟨B8, hB8⟩ : ∃ x, x = b.getD 8 0 := ⟨_, rfl⟩
  obtain ⟨B9, hB9⟩ : ∃ x, x = b.getD 9 0 := ⟨_, rfl⟩
  rw [← hB8] at h8 c8 e89
  rw [← hB9] at h9 c9 e89
  obtain ⟨h80, h81⟩ := h8
  obtain ⟨h90, h91⟩ := h9
  have m8 : IntKind.i64.wrap (256 * B8) = 256 * B8 := IntWalk.i64_in _ (by omega)
  have m89 : IntKind.i64.wrap (256 * B8 + B9) = (n : Int) := by rw [IntWalk.i64_in _ (by omega)]; omega
  have g1 : 14 + (n : Int) < (b.length : Int) := by omega
  have g2 : ¬ (b.length : Int) < 14 + (n : Int) := by omega
  clear hr hx hl hn hB8 hB9 hb0 hr0 hc h2
  go_enter Try.func15, Try.ntmps15
  go_wp2_with fail
  go_quiet (fail)
  obtain ⟨w1, hw1⟩ : ∃ w1, w1 = (w.alloc (.cells #[.int .u32 0, .int .i64 0, .int .i64 0, .slice none 0 0] 25)).drewN nq := ⟨_, rfl⟩
  have hb1 := below_draws (w.alloc (.cells #[.int .u32 0, .int .i64 0, .int .i64 0, .slice none 0 0] 25)) nq
  rw [← hw1] at hb1 ⊢
  have HB1 := Aside0.mk (HB0.out.trans (hb1.mono HB0.out.size))
  have HH1 := Aside0.mk (blk_keep HH0.out hb1)
  clear hb1 hw1 c8 c9 m8 m89 e89 h80 h81 h90 h91 HB0 HH0 i8 i9
  obtain ⟨c0, c1, c2, c3, f0, f1, f2, f3⟩ := four_cells HH1.out
  go_wp2_with fail
  refine bodyPost_ret (v := .tuple #[.agg #[.int .u32 0, .int .i64 0, .int .i64 0, .slice none 0 0], .int .i64 2]) (by simp [results, Try.results15, go_sem, c0, c1, c2, c3, f0, f1, f2, f3]) rfl ?_
  exact retfrq_zero HV.out (below_set4 HB1.out (Nat.le_refl _) _ _ _ _)
set_option maxHeartbeats 8000000 in
theorem rread_unsum (w : World) (A : Option Addr) (c : Nat) (b : List Int) (hr : Kd.C (Kd.int .u8) w A b.length b) (hx : Bytes b) (hc : b.length ≤ c) (hl : 14 ≤ b.length) (h2 : b.length = 14 + lenAt b) (hsum : getF (b.drop (10 + lenAt b)) ≠ sumOf (b.take (10 + lenAt b))) : Calls Try.prog 15 #[.slice A b.length c] w (RetFRq w (readF b)) := by
  obtain ⟨ad, rfl, _⟩ := C_byte hr (k := 0) (by omega)
  have hn2 := (lenAt_get hx hl).2
  have h8 := hx.getD 8
  have h9 := hx.getD 9
  have e89 := lenAt_two hx
  have hb0 : Below w.heap.size w (w.alloc (.cells #[.int .u32 0, .int .i64 0, .int .i64 0, .slice none 0 0] 25)) := below_alloc (Below.refl _ _) _
  have hr0 := Kd.C_below hr hb0
  have c8 := C_lit hr0 (k := 7) (by omega)
  have c9 := C_lit hr0 (k := 8) (by omega)
  simp only [Nat.reduceAdd] at c8 c9
  have HR := Aside0.mk hr
  have HX := Aside0.mk hx
  have hbl : b.length ≤ 9223372036854775807 := hr.2.1
  have h14 : (14 : Int) ≤ (b.length : Int) := by omega
  have h14c : (14 : Int) ≤ (c : Int) := by omega
  have hbc : (b.length : Int) ≤ (c : Int) := by omega
  have i8 : (8 : Int) < (b.length : Int) := by omega
  have i9 : (9 : Int) < (b.length : Int) := by omega
  have HB0 := Aside0.mk hb0
  have HH0 : Aside0 ((w.alloc (.cells #[.int .u32 0, .int .i64 0, .int .i64 0, .slice none 0 0] 25)).heap[w.heap.size]? = some (.cells #[.int .u32 0, .int .i64 0, .int .i64 0, .slice none 0 0] 25 (0, 0))) := ⟨heap_alloc_new w _⟩
  have HSUM := Aside0.mk hsum
  clear hsum
  have HV := Aside0.mk (readF_sum h2 HSUM.out)
  obtain ⟨n, hn⟩ : ∃ n, n = lenAt b := ⟨_, rfl⟩
  have HNE := Aside0.mk hn
  rw [← hn] at hn2 e89 h2 HSUM
  obtain ⟨B8, hB8⟩ : ∃ x, x = b.getD 8 0 := ⟨_, rfl⟩
  obtain ⟨B9, hB9⟩ : ∃ x, x = b.getD 9 0 := ⟨_, rfl⟩
  rw [← hB8] at h8 c8 e89
  rw [← hB9] at h9 c9 e89
  obtain ⟨h80, h81⟩ := h8
  obtain ⟨h90, h91⟩ := h9
  have m8 : IntKind.i64.wrap (256 * B8) = 256 * B8 := IntWalk.i64_in _ (by omega)
  have m89 : IntKind.i64.wrap (256 * B8 + B9) = (n : Int) := by rw [IntWalk.i64_in _ (by omega)]; omega
  obtain ⟨H, hH⟩ : ∃ H, H = 10 + n := ⟨_, rfl⟩
  rw [← hH] at HSUM
  have e1 : (10 : Int) + (n : Int) = (H : Int) := by omega
  have e1' : IntKind.i64.wrap ((10 : Int) + (n : Int)) = (H : Int) := by rw [IntWalk.i64_in _ (by omega)]; omega
  have e2' : IntKind.i64.wrap (H : Int) = (H : Int) := IntWalk.i64_in _ (by omega)
  have g1 : ¬ (b.length : Int) < 14 + (n : Int) := by omega
  have g2 : ¬ 14 + (n : Int) < (b.length : Int) := by omega
  have g3 : (H : Int) ≤ (b.length : Int) := by omega
  have g4 : (0 : Int) ≤ (H : Int) := by omega
  have g5 : (H : Int) ≤ (c : Int) := by omega
  have g6 : ¬ H = c := by omega
  have g7 : ¬ c = H := by omega
  have HRT := Aside0.mk (C_drop hr (k := H) (by omega))
  have HRH := Aside0.mk (C_take hr H (by omega))
  have HRTL : Aside0 (b.length - H = (b.drop H).length) := ⟨by rw [List.length_drop]⟩
  have HRHL : Aside0 (H = (b.take H).length) := ⟨by rw [List.length_take]; omega⟩
  have HL4 : Aside0 (b.length - H = 4) := ⟨by omega⟩
  have HDR := Aside0.mk (hx.drop H)
  have HTK := Aside0.mk (hx.take H)
  have HRT2 : Aside0 (Kd.C (Kd.int .u8) w (some (ad.add H)) (b.drop H).length (b.drop H)) := ⟨by rw [← HRTL.out]; exact HRT.out⟩
  have HRH2 : Aside0 (Kd.C (Kd.int .u8) w (some ad) (b.take H).length (b.take H)) := ⟨by rw [← HRHL.out]; exact HRH.out⟩
  have HNB : Aside0 (n + 14 = b.length ∧ H = n + 10) := ⟨by omega, by omega⟩
  clear hr hx hl hn hB8 hB9 hb0 hr0 hc h2 hH
  go_enter Try.func15, Try.ntmps15
  go_wp2_with fail
  go_quiet (fail)
  obtain ⟨w1, hw1⟩ : ∃ w1, w1 = (w.alloc (.cells #[.int .u32 0, .int .i64 0, .int .i64 0, .slice none 0 0] 25)).drewN nq := ⟨_, rfl⟩
  have hb1 := below_draws (w.alloc (.cells #[.int .u32 0, .int .i64 0, .int .i64 0, .slice none 0 0] 25)) nq
  rw [← hw1] at hb1 ⊢
  have HB1 := Aside0.mk (HB0.out.trans (hb1.mono HB0.out.size))
  have HH1 := Aside0.mk (blk_keep HH0.out hb1)
  clear hb1 hw1 c8 c9 m8 m89 e89 h80 h81 h90 h91 HB0 HH0 i8 i9
  obtain ⟨c0, c1, c2, c3, f0, f1, f2, f3⟩ := four_cells HH1.out
  have hxr := getF_range HDR.out 4 (by rw [← HRTL.out]; have := HL4.out; omega)
  rw [List.take_of_length_le (by rw [← HRTL.out]; have := HL4.out; omega)] at hxr
  have hyr := sumOf_range (b.take H)
  have hxy := HSUM.out
  obtain ⟨x, hxe⟩ : ∃ x, x = getF (b.drop H) := ⟨_, rfl⟩
  obtain ⟨y, hye⟩ : ∃ y, y = sumOf (b.take H) := ⟨_, rfl⟩
  rw [← hxe] at hxr hxy
  rw [← hye] at hyr hxy
  have HXE := Aside0.mk hxe
  have HYE := Aside0.mk hye
  obtain ⟨hx0, hx1⟩ := hxr
  have hx1 : x < 4294967296 := hx1
  obtain ⟨hy0, hy1⟩ := hyr
  clear hxe hye
  obtain ⟨i0, hi0, hz0, hz1, hz2⟩ := info_parts info_u8
  have hcut : ∀ W : World, (Instr.slice 23 (.slice (some ad) b.length c) (some (.int .i64 (H : Int))) none none).run Try.prog W = .ok (.slice (some (ad.add H)) (b.length - H) (c - H)) W := fun W => by
    have := cut_from (P := Try.prog) 23 5 .i64 Try.underlying23 hi0 1 hz1 (some ad) b.length c (H : Int) g4 g3 W
    simp only [Int.toNat_natCast, Nat.mul_one, Option.map_some] at this
    rw [this, if_neg g7]
  clear hi0 hz0 hz1 hz2
  go_wp2_with fail
  refine (rget_at _ (some (ad.add H)) (b.length - H) (c - H) (b.drop H) HRTL.out (Kd.C_below HRT2.out HB1.out) HDR.out (by have := HL4.out; omega) (by have := HL4.out; omega) x HXE.out).mono ?_
  rintro e w1 ⟨rfl, rfl⟩
  clear hcut
  go_wp2_with fail
  refine (rsum_at _ (some ad) H c (b.take H) HRHL.out (Kd.C_below HRH2.out HB1.out) HTK.out y HYE.out).mono ?_
  rintro e w1 ⟨rfl, rfl⟩
  have hne : (x != y) = true := by simpa using hxy
  clear hxy
  go_wp2_with fail
  refine bodyPost_ret (v := .tuple #[.agg #[.int .u32 0, .int .i64 0, .int .i64 0, .slice none 0 0], .int .i64 31]) (by simp [results, Try.results15, go_sem, c0, c1, c2, c3, f0, f1, f2, f3]) rfl ?_
  exact retfrq_zero HV.out (below_set4 HB1.out (Nat.le_refl _) _ _ _ _)
set_option maxHeartbeats 8000000 in
theorem rread_okay (w : World) (A : Option Addr) (c : Nat) (b : List Int) (hr : Kd.C (Kd.int .u8) w A b.length b) (hx : Bytes b) (hc : b.length ≤ c) (hl : 14 ≤ b.length) (h2 : b.length = 14 + lenAt b) (hsum : getF (b.drop (10 + lenAt b)) = sumOf (b.take (10 + lenAt b))) : Calls Try.prog 15 #[.slice A b.length c] w (RetFRq w (readF b)) := by
  obtain ⟨ad, rfl, _⟩ := C_byte hr (k := 0) (by omega)
  have hn2 := (lenAt_get hx hl).2
  have h8 := hx.getD 8
  have h9 := hx.getD 9
  have e89 := lenAt_two hx
  have hb0 : Below w.heap.size w (w.alloc (.cells #[.int .u32 0, .int .i64 0, .int .i64 0, .slice none 0 0] 25)) := below_alloc (Below.refl _ _) _
  have hr0 := Kd.C_below hr hb0
  have c8 := C_lit hr0 (k := 7) (by omega)
  have c9 := C_lit hr0 (k := 8) (by omega)
  simp only [Nat.reduceAdd] at c8 c9
  have HR := Aside0.mk hr
  have HX := Aside0.mk hx
  have hbl : b.length ≤ 9223372036854775807 := hr.2.1
  have h14 : (14 : Int) ≤ (b.length : Int) := by omega
  have h14c : (14 : Int) ≤ (c : Int) := by omega
  have hbc : (b.length : Int) ≤ (c : Int) := by omega
  have i8 : (8 : Int) < (b.length : Int) := by omega
  have i9 : (9 : Int) < (b.length : Int) := by omega
  have HB0 := Aside0.mk hb0
  have HH0 : Aside0 ((w.alloc (.cells #[.int .u32 0, .int .i64 0, .int .i64 0, .slice none 0 0] 25)).heap[w.heap.size]? = some (.cells #[.int .u32 0, .int .i64 0, .int .i64 0, .slice none 0 0] 25 (0, 0))) := ⟨heap_alloc_new w _⟩
  have HSUM := Aside0.mk hsum
  clear hsum
  have HM : Aside0 (getF (b.drop (10 + lenAt b)) = sumOf (b.take (10 + lenAt b)) → ¬ (frameOf b).mayP → readF b = (FR.zero, 70)) := ⟨readF_may h2⟩
  have HG : Aside0 (getF (b.drop (10 + lenAt b)) = sumOf (b.take (10 + lenAt b)) → (frameOf b).mayP → readF b = (frameOf b, 0)) := ⟨readF_good h2⟩
  obtain ⟨n, hn⟩ : ∃ n, n = lenAt b := ⟨_, rfl⟩
  have HNE := Aside0.mk hn
  rw [← hn] at hn2 e89 h2 HSUM HM HG
  obtain ⟨B8, hB8⟩ : ∃ x, x = b.getD 8 0 := ⟨_, rfl⟩
  obtain ⟨B9, hB9⟩ : ∃ x, x = b.getD 9 0 := ⟨_, rfl⟩
  rw [← hB8] at h8 c8 e89
  rw [← hB9] at h9 c9 e89
  obtain ⟨h80, h81⟩ := h8
  obtain ⟨h90, h91⟩ := h9
  have m8 : IntKind.i64.wrap (256 * B8) = 256 * B8 := IntWalk.i64_in _ (by omega)
  have m89 : IntKind.i64.wrap (256 * B8 + B9) = (n : Int) := by rw [IntWalk.i64_in _ (by omega)]; omega
  obtain ⟨H, hH⟩ : ∃ H, H = 10 + n := ⟨_, rfl⟩
  rw [← hH] at HSUM HM HG
  have e1 : (10 : Int) + (n : Int) = (H : Int) := by omega
  have e1' : IntKind.i64.wrap ((10 : Int) + (n : Int)) = (H : Int) := by rw [IntWalk.i64_in _ (by omega)]; omega
  have e2' : IntKind.i64.wrap (H : Int) = (H : Int) := IntWalk.i64_in _ (by omega)
  have g1 : ¬ (b.length : Int) < 14 + (n : Int) := by omega
  have g2 : ¬ 14 + (n : Int) < (b.length : Int) := by omega
  have g3 : (H : Int) ≤ (b.length : Int) := by omega
  have g4 : (0 : Int) ≤ (H : Int) := by omega
  have g5 : (H : Int) ≤ (c : Int) := by omega
  have g6 : ¬ H = c := by omega
  have g7 : ¬ c = H := by omega
  have HRT := Aside0.mk (C_drop hr (k := H) (by omega))
  have HRH := Aside0.mk (C_take hr H (by omega))
  have HRTL : Aside0 (b.length - H = (b.drop H).length) := ⟨by rw [List.length_drop]⟩
  have HRHL : Aside0 (H = (b.take H).length) := ⟨by rw [List.length_take]; omega⟩
  have HL4 : Aside0 (b.length - H = 4) := ⟨by omega⟩
  have HDR := Aside0.mk (hx.drop H)
  have HTK := Aside0.mk (hx.take H)
  have HRT2 : Aside0 (Kd.C (Kd.int .u8) w (some (ad.add H)) (b.drop H).length (b.drop H)) := ⟨by rw [← HRTL.out]; exact HRT.out⟩
  have HRH2 : Aside0 (Kd.C (Kd.int .u8) w (some ad) (b.take H).length (b.take H)) := ⟨by rw [← HRHL.out]; exact HRH.out⟩
  have HNB : Aside0 (n + 14 = b.length ∧ H = n + 10) := ⟨by omega, by omega⟩
  clear hr hx hl hn hB8 hB9 hb0 hr0 hc h2 hH
  go_enter Try.func15, Try.ntmps15
  go_wp2_with fail
  go_quiet (fail)
  obtain ⟨w1, hw1⟩ : ∃ w1, w1 = (w.alloc (.cells #[.int .u32 0, .int .i64 0, .int .i64 0, .slice none 0 0] 25)).drewN nq := ⟨_, rfl⟩
  have hb1 := below_draws (w.alloc (.cells #[.int .u32 0, .int .i64 0, .int .i64 0, .slice none 0 0] 25)) nq
  rw [← hw1] at hb1 ⊢
  have HB1 := Aside0.mk (HB0.out.trans (hb1.mono HB0.out.size))
  have HH1 := Aside0.mk (blk_keep HH0.out hb1)
  clear hb1 hw1 c8 c9 m8 m89 e89 h80 h81 h90 h91 HB0 HH0 i8 i9
  obtain ⟨c0, c1, c2, c3, f0, f1, f2, f3⟩ := four_cells HH1.out
  have hxr := getF_range HDR.out 4 (by rw [← HRTL.out]; have := HL4.out; omega)
  rw [List.take_of_length_le (by rw [← HRTL.out]; have := HL4.out; omega)] at hxr
  have hyr := sumOf_range (b.take H)
  have hxy := HSUM.out
  obtain ⟨x, hxe⟩ : ∃ x, x = getF (b.drop H) := ⟨_, rfl⟩
  obtain ⟨y, hye⟩ : ∃ y, y = sumOf (b.take H) := ⟨_, rfl⟩
  rw [← hxe] at hxr hxy
  rw [← hye] at hyr hxy
  have HXE := Aside0.mk hxe
  have HYE := Aside0.mk hye
  obtain ⟨hx0, hx1⟩ := hxr
  have hx1 : x < 4294967296 := hx1
  obtain ⟨hy0, hy1⟩ := hyr
  clear hxe hye
  obtain ⟨i0, hi0, hz0, hz1, hz2⟩ := info_parts info_u8
  have hcut : ∀ W : World, (Instr.slice 23 (.slice (some ad) b.length c) (some (.int .i64 (H : Int))) none none).run Try.prog W = .ok (.slice (some (ad.add H)) (b.length - H) (c - H)) W := fun W => by
    have := cut_from (P := Try.prog) 23 5 .i64 Try.underlying23 hi0 1 hz1 (some ad) b.length c (H : Int) g4 g3 W
    simp only [Int.toNat_natCast, Nat.mul_one, Option.map_some] at this
    rw [this, if_neg g7]
  clear hi0 hz0 hz1 hz2
  go_wp2_with fail
  refine (rget_at _ (some (ad.add H)) (b.length - H) (c - H) (b.drop H) HRTL.out (Kd.C_below HRT2.out HB1.out) HDR.out (by have := HL4.out; omega) (by have := HL4.out; omega) x HXE.out).mono ?_
  rintro e w1 ⟨rfl, rfl⟩
  clear hcut
  go_wp2_with fail
  refine (rsum_at _ (some ad) H c (b.take H) HRHL.out (Kd.C_below HRH2.out HB1.out) HTK.out y HYE.out).mono ?_
  rintro e w1 ⟨rfl, rfl⟩
  have hne : (x != y) = false := by simpa using hxy
  clear hxy
  have hbl4 := HNB.out
  have HR4 : Aside0 (Kd.C (Kd.int .u8) w (some ad) (b.take 4).length (b.take 4)) := ⟨by
    have h := C_take HR.out 4 (by omega)
    have e : (b.take 4).length = 4 := by rw [List.length_take]; omega
    rw [e]
    exact h⟩
  have HM10 : Aside0 (Kd.C (Kd.int .u8) w (some ⟨ad.block, ad.off + 10, none⟩) ((b.drop 10).take n).length ((b.drop 10).take n)) := ⟨C_mid HR.out (k := 10) (n := n) (by omega)⟩
  have HL4' : Aside0 (4 = (b.take 4).length) := ⟨by rw [List.length_take]; omega⟩
  have HDN : Aside0 (H - 10 = ((b.drop 10).take n).length ∧ ((b.drop 10).take n).length ≤ 140737488355328) := ⟨by rw [List.length_take, List.length_drop]; omega⟩
  have HFO : Aside0 (frameOf b = ⟨getF (b.take 4), 256 * b.getD 4 0 + b.getD 5 0, 256 * b.getD 6 0 + b.getD 7 0, (b.drop 10).take n⟩) := ⟨by unfold frameOf; rw [← HNE.out, two_at (by omega), two_at (by omega)]⟩
  have HB4 := Aside0.mk (HX.out.take 4)
  have hsr := getF_range HB4.out 4 (by have := HL4'.out; omega)
  rw [List.take_of_length_le (by have := HL4'.out; omega)] at hsr
  have h4 := HX.out.getD 4
  have h5 := HX.out.getD 5
  have h6 := HX.out.getD 6
  have h7 := HX.out.getD 7
  have HCB : Aside0 (∀ W, Below w.heap.size w W → W.cell? ⟨ad.block, ad.off + 4, none⟩ = some (.int .u8 (b.getD 4 0)) ∧ W.cell? ⟨ad.block, ad.off + 5, none⟩ = some (.int .u8 (b.getD 5 0)) ∧ W.cell? ⟨ad.block, ad.off + 6, none⟩ = some (.int .u8 (b.getD 6 0)) ∧ W.cell? ⟨ad.block, ad.off + 7, none⟩ = some (.int .u8 (b.getD 7 0))) := ⟨fun W hW => by
    have hr := Kd.C_below HR.out hW
    exact ⟨C_lit hr (k := 3) (by omega), C_lit hr (k := 4) (by omega), C_lit hr (k := 5) (by omega), C_lit hr (k := 6) (by omega)⟩⟩
  obtain ⟨B4, hB4⟩ : ∃ x, x = b.getD 4 0 := ⟨_, rfl⟩
  obtain ⟨B5, hB5⟩ : ∃ x, x = b.getD 5 0 := ⟨_, rfl⟩
  obtain ⟨B6, hB6⟩ : ∃ x, x = b.getD 6 0 := ⟨_, rfl⟩
  obtain ⟨B7, hB7⟩ : ∃ x, x = b.getD 7 0 := ⟨_, rfl⟩
  obtain ⟨fs, hfs⟩ : ∃ fs, fs = getF (b.take 4) := ⟨_, rfl⟩
  obtain ⟨fd, hfd⟩ : ∃ fd, fd = (b.drop 10).take n := ⟨_, rfl⟩
  rw [← hB4] at h4 HCB HFO
  rw [← hB5] at h5 HCB HFO
  rw [← hB6] at h6 HCB HFO
  rw [← hB7] at h7 HCB HFO
  rw [← hfs] at hsr HFO
  rw [← hfd] at HFO HM10 HDN
  obtain ⟨fq, hfq⟩ : ∃ fq, fq = 256 * B4 + B5 := ⟨_, rfl⟩
  obtain ⟨fk, hfk⟩ : ∃ fk, fk = 256 * B6 + B7 := ⟨_, rfl⟩
  rw [← hfq, ← hfk] at HFO
  have HFS := Aside0.mk hfs
  obtain ⟨s0, s1⟩ := hsr
  have s1 : fs < 4294967296 := s1
  obtain ⟨h40, h41⟩ := h4
  obtain ⟨h50, h51⟩ := h5
  obtain ⟨h60, h61⟩ := h6
  obtain ⟨h70, h71⟩ := h7
  have wB4 : IntKind.i64.wrap B4 = B4 := IntWalk.i64_in _ (by omega)
  have wB5 : IntKind.i64.wrap B5 = B5 := IntWalk.i64_in _ (by omega)
  have wB6 : IntKind.i64.wrap B6 = B6 := IntWalk.i64_in _ (by omega)
  have wB7 : IntKind.i64.wrap B7 = B7 := IntWalk.i64_in _ (by omega)
  have m4 : IntKind.i64.wrap (256 * B4) = 256 * B4 := IntWalk.i64_in _ (by omega)
  have m45 : IntKind.i64.wrap (256 * B4 + B5) = fq := by rw [IntWalk.i64_in _ (by omega)]; omega
  have e45 : 256 * B4 + B5 = fq := hfq.symm
  have m6 : IntKind.i64.wrap (256 * B6) = 256 * B6 := IntWalk.i64_in _ (by omega)
  have m67 : IntKind.i64.wrap (256 * B6 + B7) = fk := by rw [IntWalk.i64_in _ (by omega)]; omega
  have e67 : 256 * B6 + B7 = fk := hfk.symm
  have wfq : IntKind.i64.wrap fq = fq := IntWalk.i64_in _ (by omega)
  have wfk : IntKind.i64.wrap fk = fk := IntWalk.i64_in _ (by omega)
  have hwf : IntKind.u32.wrap fs = fs := IntWalk.u32_in _ ⟨s0, by omega⟩
  have i4 : (4 : Int) < (b.length : Int) := by omega
  have i5 : (5 : Int) < (b.length : Int) := by omega
  have i6 : (6 : Int) < (b.length : Int) := by omega
  have i7 : (7 : Int) < (b.length : Int) := by omega
  have h10 : (10 : Int) ≤ (H : Int) := by omega
  have m4c : (4 : Int) ≤ (c : Int) := by omega
  have m4n : 4 ≤ c := by omega
  have m10n : ¬ c = 10 := by omega
  have HMG : Aside0 (¬ (FR.mk fs fq fk fd).mayP → readF b = (FR.zero, 70)) := ⟨fun h => HM.out HSUM.out (by rw [HFO.out]; exact h)⟩
  have HGG : Aside0 ((FR.mk fs fq fk fd).mayP → readF b = (FR.mk fs fq fk fd, 0)) := ⟨fun h => by rw [← HFO.out] at h ⊢; exact HG.out HSUM.out h⟩
  have HDL := Aside0.mk HDN.out.2
  have HSZ : Aside0 (w.heap.size < w1.heap.size) := ⟨(Array.getElem?_eq_some_iff.1 HH1.out).1⟩
  have HB1D : Aside0 (Below w.heap.size w w1.drew) := ⟨below_drew HB1.out⟩
  clear hB4 hB5 hB6 hB7 hfd hfs hfq hfk HM HG HFO HNE HSUM HR HX HRT HRH HRTL HRHL HL4 HDR HTK HRT2 HRH2 HNB hbl4 HXE HYE c0 c1 c2 c3 f0 f1 f2 f3
  go_wp2_with fail
  refine (rget_at _ (some ad) 4 c (b.take 4) HL4'.out (Kd.C_below HR4.out HB1.out) HB4.out (by omega) (by omega) fs HFS.out).mono ?_
  rintro e w1 ⟨rfl, rfl⟩
  clear hx0 hx1 hy0 hy1 hne
  go_wp2_with fail
  go_region_held_law (fun W => W.cell? ⟨ad.block, ad.off + 4, none⟩ = some (.int .u8 B4) ∧ W.cell? ⟨ad.block, ad.off + 5, none⟩ = some (.int .u8 B5) ∧ W.cell? ⟨ad.block, ad.off + 6, none⟩ = some (.int .u8 B6) ∧ W.cell? ⟨ad.block, ad.off + 7, none⟩ = some (.int .u8 B7))
    (first | exact HCB.out _ HB1D.out | exact HCB.out _ (below_alloc HB1D.out _) | exact HCB.out _ (below_drew (below_alloc HB1D.out _))) (fail)
  obtain ⟨w2, hw2⟩ : ∃ w2, w2 = (w1.alloc (.cells #[.int .u32 fs, .int .i64 fq, .int .i64 fk, .slice none 0 0] 25)).drew := ⟨_, rfl⟩
  have hb12 : Below w1.heap.size w1 w2 := by rw [hw2]; exact below_drew (below_alloc (Below.refl _ _) _)
  have hh2 : w2.heap[w1.heap.size]? = some (.cells #[.int .u32 fs, .int .i64 fq, .int .i64 fk, .slice none 0 0] 25 (0, 0)) := by rw [hw2]; exact heap_alloc_new w1 _
  obtain ⟨p, hp⟩ : ∃ p, p = w1.heap.size := ⟨_, rfl⟩
  rw [← hp] at hh2 ⊢
  rw [← hw2]
  have HB2 := Aside0.mk (HB1.out.trans (hb12.mono HB1.out.size))
  have HR2 := Aside0.mk (blk_keep HH1.out hb12)
  have HPL : Aside0 (w.heap.size < p ∧ p < w2.heap.size) := ⟨by have := HSZ.out; omega, (Array.getElem?_eq_some_iff.1 hh2).1⟩
  have HH2 := Aside0.mk hh2
  have HC10 := Aside0.mk (Kd.C_below HM10.out HB2.out)
  obtain ⟨t0, t1, t2, t3, r0, r1, r2, r3⟩ := four_cells hh2
  clear hb12 hh2 hp hw2 m4 m45 m6 m67 e45 e67 wB4 wB5 wB6 wB7 wfq wfk h40 h41 h50 h51 h60 h61 h70 h71 i4 i5 i6 i7
  go_wp2_with fail
  go_region_law (refine step_q w2.heap.size rfl (.tmp 83) (.tmp 87) rfl (.slice none 0 0) [] fd (some ⟨ad.block, ad.off + 10, none⟩) (H - 10) (c - 10) HDN.out.1 rfl rfl (QB.nil _ _) (by first | exact HC10.out | exact Kd.C_below HC10.out (below_drew (Below.refl _ _))) (by exact Nat.le_refl _) (by have := HDN.out.2; show 0 + fd.length ≤ 140737488355328; omega) ?_; intro v5 w5 ho5 hg5 hn5; have HQ5 : Aside0 (QB w5 w2.heap.size v5 fd) := ⟨ho5⟩; have hb5 : Below w2.heap.size w2 w5 := (by first | exact (Below.refl _ _).grown hg5 (Nat.le_refl _) (fun k e => (by cases e)) | exact (below_drew (Below.refl _ _)).grown hg5 (Nat.le_refl _) (fun k e => (by cases e))); have HB5 := Aside0.mk hb5; have HH5 := Aside0.mk (blk_keep HH2.out hb5); clear ho5 hg5 hn5 hb5; obtain ⟨A5, c5, rfl, _⟩ := HQ5.out.form; obtain ⟨u0, u1, u2, u3, v0, v1, v2, v3⟩ := four_cells HH5.out)
  all_goals
    obtain ⟨wF, hwF⟩ : ∃ wF, wF = w5.setCell ⟨p, 3, none⟩ (.slice A5 fd.length c5) := ⟨_, rfl⟩
    rw [← hwF]
    have hhf : wF.heap[p]? = some (.cells #[.int .u32 fs, .int .i64 fq, .int .i64 fk, .slice A5 fd.length c5] 25 (0, 0)) := by rw [hwF, heap_set _ HH5.out]; rfl
    have hg : w5.grownBy wF (some p) := by rw [hwF]; exact ⟨rfl, rfl, rfl, by simp [World.setCell], fun k hk hne => Below.heap_setCell w5 ⟨p, 3, none⟩ _ k (fun e => hne (by rw [e]))⟩
    have HQF := Aside0.mk (HQ5.out.move (fun k hk => hg.block k (HQ5.out.block hk).2 (fun e => by have := (HQ5.out.block hk).1; have := HPL.out; injection e with e; omega)))
    have HBW : Aside0 (Below w.heap.size w wF) := ⟨by have h := HB2.out.trans (HB5.out.mono HB2.out.size); exact h.grown hg h.size (fun k e => by have := HPL.out; injection e with e; omega)⟩
    have HRF : Aside0 (wF.heap[w.heap.size]? = some (.cells #[.int .u32 0, .int .i64 0, .int .i64 0, .slice none 0 0] 25 (0, 0))) := ⟨(hg.block _ (Array.getElem?_eq_some_iff.1 (blk_keep HR2.out HB5.out)).1 (fun e => by have := HPL.out; injection e with e; omega)).trans (blk_keep HR2.out HB5.out)⟩
    have HF := Aside0.mk hhf
    clear hwF hhf hg t0 t1 t2 t3 r0 r1 r2 r3 u0 u1 u2 u3 v0 v1 v2 v3
    obtain ⟨t0, t1, t2, t3, r0, r1, r2, r3⟩ := four_cells HF.out
    by_cases hmay : (FR.mk fs fq fk fd).mayP
    · have HMB := Aside0.mk (mayB_yes hmay)
      have HV := Aside0.mk (HGG.out hmay)
      clear hmay
      go_wp2_with fail
      refine (rmay_calls _ ⟨fs, fq, fk, fd⟩ A5 c5 (by have := HDL.out; dsimp only; omega)).mono ?_
      rw [HMB.out]
      rintro e w7 ⟨rfl, hb7⟩
      have HB7 := Aside0.mk (HBW.out.trans (hb7.mono HBW.out.size))
      have HF7 := Aside0.mk (blk_keep HF.out hb7)
      have HQ7 := Aside0.mk (HQF.out.below hb7)
      have HR7 := Aside0.mk (blk_keep HRF.out hb7)
      clear hb7 t0 t1 t2 t3 r0 r1 r2 r3
      obtain ⟨t0, t1, t2, t3, r0, r1, r2, r3⟩ := four_cells HF7.out
      obtain ⟨c0, c1, c2, c3, f0, f1, f2, f3⟩ := four_cells HR7.out
      go_wp2_with fail
      refine bodyPost_ret (v := .tuple #[.agg #[.int .u32 fs, .int .i64 fq, .int .i64 fk, .slice A5 fd.length c5], .int .i64 0]) (by simp [results, Try.results15, go_sem, c0, c1, c2, c3, f0, f1, f2, f3]) rfl ?_
      rw [HV.out]
      exact ⟨A5, c5, rfl, QB.set4 HQ7.out (by have := HPL.out; omega) (by have := HPL.out; omega) _ _ _ _, below_set4 HB7.out (Nat.le_refl _) _ _ _ _⟩
    · have HMB := Aside0.mk (mayB_no hmay)
      have HV := Aside0.mk (HMG.out hmay)
      clear hmay
      go_wp2_with fail
      refine (rmay_calls _ ⟨fs, fq, fk, fd⟩ A5 c5 (by have := HDL.out; dsimp only; omega)).mono ?_
      rw [HMB.out]
      rintro e w7 ⟨rfl, hb7⟩
      have HB7 := Aside0.mk (HBW.out.trans (hb7.mono HBW.out.size))
      have HR7 := Aside0.mk (blk_keep HRF.out hb7)
      clear hb7 t0 t1 t2 t3 r0 r1 r2 r3
      obtain ⟨c0, c1, c2, c3, f0, f1, f2, f3⟩ := four_cells HR7.out
      go_wp2_with fail
      refine bodyPost_ret (v := .tuple #[.agg #[.int .u32 0, .int .i64 0, .int .i64 0, .slice none 0 0], .int .i64 70]) (by simp [results, Try.results15, go_sem, c0, c1, c2, c3, f0, f1, f2, f3]) rfl ?_
      exact retfrq_zero HV.out (below_set4 HB7.out (Nat.le_refl _) _ _ _ _)
theorem rread_calls (w : World) (A : Option Addr) (c : Nat) (b : List Int) (hr : Kd.C (Kd.int .u8) w A b.length b) (hx : Bytes b) (hc : b.length ≤ c) : Calls Try.prog 15 #[.slice A b.length c] w (RetFRq w (readF b)) := by
  by_cases h1 : b.length < 14
  · exact rread_tiny w A c b h1
  · by_cases h2 : b.length = 14 + lenAt b
    · by_cases hs : getF (b.drop (10 + lenAt b)) = sumOf (b.take (10 + lenAt b))
      · exact rread_okay w A c b hr hx hc (by omega) h2 hs
      · exact rread_unsum w A c b hr hx hc (by omega) h2 hs
    · by_cases h3 : b.length < 14 + lenAt b
      · exact rread_short w A c b hr hx hc (by omega) h3
      · exact rread_long w A c b hr hx hc (by omega) (by omega)
end Go.Proofs.Ytmdipdjgfdjhoaa.Oct
