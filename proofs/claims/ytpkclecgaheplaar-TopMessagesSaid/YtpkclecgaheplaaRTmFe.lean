import Derived.Test.YtpkclecgaheplaaRTmFc
namespace Go.Proofs.YtpkclecgaheplaaR.Oct
open Go.RowKit Go.Proofs.YtpkclecgaheplaaRW.PrintWords Go.Proofs.YtpkclecgaheplaaR.M
set_option linter.unusedVariables false
set_option linter.unusedSimpArgs false
/-- four stores into one block -/
theorem set4 {W : World} {g : Nat} {x0 x1 x2 x3 : Value} {t : TypeId} (h : W.heap[g]? = some (.cells #[x0, x1, x2, x3] t (0, 0))) (y0 y1 y2 y3 : Value) :
    ((((W.setCell ⟨g, 0, none⟩ y0).setCell ⟨g, 1, none⟩ y1).setCell ⟨g, 2, none⟩ y2).setCell ⟨g, 3, none⟩ y3).heap[g]? = some (.cells #[y0, y1, y2, y3] t (0, 0)) := by
  have h0 := heap_set (i := 0) y0 h
  have h1 := heap_set (i := 1) y1 h0
  have h2 := heap_set (i := 2) y2 h1
  have h3 := heap_set (i := 3) y3 h2
  rw [h3]
  rfl
theorem set4_far (W : World) (g : Nat) (y0 y1 y2 y3 : Value) (k : Nat) (hk : k ≠ g) :
    ((((W.setCell ⟨g, 0, none⟩ y0).setCell ⟨g, 1, none⟩ y1).setCell ⟨g, 2, none⟩ y2).setCell ⟨g, 3, none⟩ y3).heap[k]? = W.heap[k]? := by
  rw [Below.heap_setCell _ ⟨g, 3, none⟩ _ k hk, Below.heap_setCell _ ⟨g, 2, none⟩ _ k hk, Below.heap_setCell _ ⟨g, 1, none⟩ _ k hk, Below.heap_setCell _ ⟨g, 0, none⟩ _ k hk]
theorem below_set4 {n : Nat} {W0 W : World} (h : Below n W0 W) {g : Nat} (hg : n ≤ g) (y0 y1 y2 y3 : Value) : Below n W0 ((((W.setCell ⟨g, 0, none⟩ y0).setCell ⟨g, 1, none⟩ y1).setCell ⟨g, 2, none⟩ y2).setCell ⟨g, 3, none⟩ y3) :=
  (((h.setCell (p := ⟨g, 0, none⟩) hg _).setCell (p := ⟨g, 1, none⟩) hg _).setCell (p := ⟨g, 2, none⟩) hg _).setCell (p := ⟨g, 3, none⟩) hg _
theorem OB.set4 {W : World} {base base' g : Nat} {v : Value} {xs : List Int} (h : OB W base v xs) (hg : g < base) (hb : base' ≤ base) (y0 y1 y2 y3 : Value) : OB ((((W.setCell ⟨g, 0, none⟩ y0).setCell ⟨g, 1, none⟩ y1).setCell ⟨g, 2, none⟩ y2).setCell ⟨g, 3, none⟩ y3) base' v xs :=
  OB.lower (own_move h (fun k hk => set4_far _ _ _ _ _ _ k (fun e => by have := own_base h k hk; omega))) hb
attribute [local go_sem ↓] Go.wp_at_zero Go.wp_at_succ
set_option maxHeartbeats 40000000 in
theorem fread_okay (w : World) (A : Option Addr) (c : Nat) (b : List Int) (hr : Kd.C (Kd.int .u8) w A b.length b) (hx : Bytes b) (hc : b.length ≤ c) (hl : 14 ≤ b.length) (h2 : b.length = 14 + lenAt b) (hsum : getF (b.drop (10 + lenAt b)) = sumOf (b.take (10 + lenAt b))) : Calls Try.prog 10 #[.slice A b.length c] w (RetFR w (readF b)) := by
  obtain ⟨ad, rfl, _⟩ := C_byte hr (k := 0) (by omega)
  have HN := Aside0.mk (lenAt_get hx hl).1
  have hn2 := (lenAt_get hx hl).2
  have HR8 := Aside0.mk (C_mid hr (k := 8) (n := 2) (by omega))
  have HN2 : Aside0 (2 = ((b.drop 8).take 2).length) := ⟨by rw [List.length_take, List.length_drop]; omega⟩
  have HR := Aside0.mk hr
  have HX := Aside0.mk hx
  have hbl : b.length ≤ 9223372036854775807 := hr.2.1
  have h14 : (14 : Int) ≤ (b.length : Int) := by omega
  have h14c : (14 : Int) ≤ (c : Int) := by omega
  have hbc : (b.length : Int) ≤ (c : Int) := by omega
  have HS : Aside0 (getF (b.drop (10 + lenAt b)) ≠ sumOf (b.take (10 + lenAt b)) → readF b = (FR.zero, 31)) := ⟨readF_sum h2⟩
  have HM : Aside0 (getF (b.drop (10 + lenAt b)) = sumOf (b.take (10 + lenAt b)) → ¬ (frameOf b).mayP → readF b = (FR.zero, 70)) := ⟨readF_may h2⟩
  have HG : Aside0 (getF (b.drop (10 + lenAt b)) = sumOf (b.take (10 + lenAt b)) → (frameOf b).mayP → readF b = (frameOf b, 0)) := ⟨readF_good h2⟩
  have HSUM := Aside0.mk hsum
  clear hsum
  obtain ⟨n, hn⟩ : ∃ n, n = lenAt b := ⟨_, rfl⟩
  have HNE := Aside0.mk hn
  rw [← hn] at hn2 HN h2 HS HM HG HSUM
  obtain ⟨H, hH⟩ : ∃ H, H = 10 + n := ⟨_, rfl⟩
  rw [← hH] at HS HM HG HSUM
  have e1 : (10 : Int) + (n : Int) = (H : Int) := by omega
  have e1' : IntKind.i64.wrap ((10 : Int) + (n : Int)) = (H : Int) := by rw [IntWalk.i64_in _ (by omega)]; omega
  have e2' : IntKind.i64.wrap (H : Int) = (H : Int) := IntWalk.i64_in _ (by omega)
  have g1 : ¬ (b.length : Int) < (H : Int) + 4 := by omega
  have g2 : ¬ (H : Int) + 4 < (b.length : Int) := by omega
  have g3 : (H : Int) ≤ (b.length : Int) := by omega
  have g4 : (0 : Int) ≤ (H : Int) := by omega
  have g5 : (H : Int) ≤ (c : Int) := by omega
  have g6 : ¬ H = c := by omega
  have g7 : ¬ c = H := by omega
  have HRT := Aside0.mk (C_drop hr (k := H) (by omega))
  have HRH := Aside0.mk (C_take hr H (by omega))
  clear hr hx hl h2 hn hH
  go_enter Try.func10, Try.ntmps10
  go_wp2_with fail
  obtain ⟨w0, hw0⟩ : ∃ w0, w0 = w.alloc (.cells #[.int .u32 0, .int .i64 0, .int .i64 0, .slice none 0 0] 39) := ⟨_, rfl⟩
  have HB0 : Aside0 (Below w.heap.size w w0) := ⟨by rw [hw0]; exact below_alloc (Below.refl _ _) _⟩
  have HH0 : Aside0 (w0.heap[w.heap.size]? = some (.cells #[.int .u32 0, .int .i64 0, .int .i64 0, .slice none 0 0] 39 (0, 0))) := ⟨by rw [hw0]; exact heap_alloc_new w _⟩
  rw [← hw0]
  clear hw0
  refine (number_at _ (some (ad.add 8)) 2 (c - 8) ((b.drop 8).take 2) HN2.out (Kd.C_below HR8.out HB0.out) (HX.out.drop 8 |>.take 2) (by omega) (by omega) (n : Int) HN.out).mono ?_
  rintro e w1 ⟨rfl, rfl⟩
  go_wp2_with fail
  have HRTL : Aside0 (b.length - H = (b.drop H).length) := ⟨by rw [List.length_drop]⟩
  have HRHL : Aside0 (H = (b.take H).length) := ⟨by rw [List.length_take]; omega⟩
  have HL4 : Aside0 (b.length - H = 4) := ⟨by omega⟩
  have hxr := getF_range (HX.out.drop H) 4 (by rw [List.length_drop]; have := HL4.out; omega)
  rw [List.take_of_length_le (by rw [List.length_drop]; have := HL4.out; omega)] at hxr
  have hyr := sumOf_range (b.take H)
  obtain ⟨x, hxe⟩ : ∃ x, x = getF (b.drop H) := ⟨_, rfl⟩
  obtain ⟨y, hye⟩ : ∃ y, y = sumOf (b.take H) := ⟨_, rfl⟩
  rw [← hxe] at hxr HS HM HG HSUM
  rw [← hye] at hyr HS HM HG HSUM
  have HXE := Aside0.mk hxe
  have HYE := Aside0.mk hye
  obtain ⟨hx0, hx1⟩ := hxr
  have hx1 : x < 4294967296 := hx1
  obtain ⟨hy0, hy1⟩ := hyr
  have HDR := Aside0.mk (HX.out.drop H)
  have HTK := Aside0.mk (HX.out.take H)
  have HRT2 : Aside0 (Kd.C (Kd.int .u8) w (some (ad.add H)) (b.drop H).length (b.drop H)) := ⟨by rw [← HRTL.out]; exact HRT.out⟩
  have HRH2 : Aside0 (Kd.C (Kd.int .u8) w (some ad) (b.take H).length (b.take H)) := ⟨by rw [← HRHL.out]; exact HRH.out⟩
  have hxy := HSUM.out
  clear hxe hye
  obtain ⟨i0, hi0, hz0, hz1, hz2⟩ := info_parts info_u8
  have hcut : ∀ W : World, (Instr.slice 28 (.slice (some ad) b.length c) (some (.int .i64 (H : Int))) none none).run Try.prog W = .ok (.slice (some (ad.add H)) (b.length - H) (c - H)) W := fun W => by
    have := cut_from (P := Try.prog) 28 5 .i64 Try.underlying28 hi0 1 hz1 (some ad) b.length c (H : Int) g4 g3 W
    simp only [Int.toNat_natCast, Nat.mul_one, Option.map_some] at this
    rw [this, if_neg g7]
  clear hi0 hz0 hz1 hz2
  have hne : (x != y) = false := by simp [hxy]
  have HXY := Aside0.mk hxy
  clear hxy
  go_quiet ((first
     | (go_at_call 24; exact Calls.quiet_of_same (number_at _ (some (ad.add H)) (b.length - H) (c - H) (b.drop H) HRTL.out (Kd.C_below HRT2.out (HB0.out.trans ((below_draws _ _).mono HB0.out.size))) HDR.out (by have := HL4.out; omega) (by have := HL4.out; omega) x HXE.out))
     | (go_at_call 21; exact Calls.quiet_of_same (sum_at _ (some ad) H c (b.take H) HRHL.out (Kd.C_below HRH2.out (HB0.out.trans ((below_draws _ _).mono HB0.out.size))) HTK.out y HYE.out))))
  obtain ⟨w2, hw2⟩ : ∃ w2, w2 = w1.drewN nq := ⟨_, rfl⟩
  have hb12 : Below w1.heap.size w1 w2 := by rw [hw2]; exact below_draws _ _
  have HB2 := Aside0.mk (HB0.out.trans (hb12.mono HB0.out.size))
  have HH2 := Aside0.mk (blk_keep HH0.out hb12)
  rw [← hw2]
  clear hw2 hb12
  obtain ⟨c0, c1, c2, c3, f0, f1, f2, f3⟩ := four_cells HH2.out
  have HR4 : Aside0 (Kd.C (Kd.int .u8) w (some ad) (b.take 4).length (b.take 4)) := ⟨by
    have h := C_take HR.out 4 (by omega)
    have e : (b.take 4).length = 4 := by rw [List.length_take]; omega
    rw [e]
    exact h⟩
  have HM4 : Aside0 (Kd.C (Kd.int .u8) w (some ⟨ad.block, ad.off + 4, none⟩) ((b.drop 4).take 2).length ((b.drop 4).take 2)) := ⟨C_mid HR.out (k := 4) (n := 2) (by omega)⟩
  have HM6 : Aside0 (Kd.C (Kd.int .u8) w (some ⟨ad.block, ad.off + 6, none⟩) ((b.drop 6).take 2).length ((b.drop 6).take 2)) := ⟨C_mid HR.out (k := 6) (n := 2) (by omega)⟩
  have HM10 : Aside0 (Kd.C (Kd.int .u8) w (some ⟨ad.block, ad.off + 10, none⟩) ((b.drop 10).take n).length ((b.drop 10).take n)) := ⟨C_mid HR.out (k := 10) (n := n) (by omega)⟩
  have HL4' : Aside0 (4 = (b.take 4).length) := ⟨by rw [List.length_take]; omega⟩
  have HQ2 : Aside0 (2 = ((b.drop 4).take 2).length) := ⟨by rw [List.length_take, List.length_drop]; omega⟩
  have HK2 : Aside0 (2 = ((b.drop 6).take 2).length) := ⟨by rw [List.length_take, List.length_drop]; omega⟩
  have HDN : Aside0 (H - 10 = ((b.drop 10).take n).length ∧ ((b.drop 10).take n).length ≤ 140737488355328) := ⟨by rw [List.length_take, List.length_drop]; omega⟩
  have HFO : Aside0 (frameOf b = ⟨getF (b.take 4), getF ((b.drop 4).take 2), getF ((b.drop 6).take 2), (b.drop 10).take n⟩) := ⟨by unfold frameOf; rw [← HNE.out]⟩
  have HB4 := Aside0.mk (HX.out.take 4)
  have HBQ := Aside0.mk ((HX.out.drop 4).take 2)
  have HBK := Aside0.mk ((HX.out.drop 6).take 2)
  have hsr := getF_range HB4.out 4 (by have := HL4'.out; omega)
  rw [List.take_of_length_le (by have := HL4'.out; omega)] at hsr
  have hqr := getF_range HBQ.out 2 (by have := HQ2.out; omega)
  rw [List.take_of_length_le (by have := HQ2.out; omega)] at hqr
  have hkr := getF_range HBK.out 2 (by have := HK2.out; omega)
  rw [List.take_of_length_le (by have := HK2.out; omega)] at hkr
  obtain ⟨fs, hfs⟩ : ∃ fs, fs = getF (b.take 4) := ⟨_, rfl⟩
  obtain ⟨fq, hfq⟩ : ∃ fq, fq = getF ((b.drop 4).take 2) := ⟨_, rfl⟩
  obtain ⟨fk, hfk⟩ : ∃ fk, fk = getF ((b.drop 6).take 2) := ⟨_, rfl⟩
  obtain ⟨fd, hfd⟩ : ∃ fd, fd = (b.drop 10).take n := ⟨_, rfl⟩
  rw [← hfs] at hsr HFO
  rw [← hfq] at hqr HFO
  rw [← hfk] at hkr HFO
  rw [← hfd] at HFO HM10 HDN
  have HFS := Aside0.mk hfs
  have HFQ := Aside0.mk hfq
  have HFK := Aside0.mk hfk
  have HFDB : Aside0 (Bytes fd) := ⟨by rw [hfd]; exact (HX.out.drop 10).take n⟩
  obtain ⟨s0, s1⟩ := hsr
  have s1 : fs < 4294967296 := s1
  obtain ⟨q0, q1⟩ := hqr
  have q1 : fq < 65536 := q1
  obtain ⟨k0, k1⟩ := hkr
  have k1 : fk < 65536 := k1
  have h10 : (10 : Int) ≤ (H : Int) := by omega
  have m4 : (4 : Int) ≤ (c : Int) := by omega
  have m6 : (6 : Int) ≤ (c : Int) := by omega
  have m8 : (8 : Int) ≤ (c : Int) := by omega
  have m4n : 4 ≤ c := by omega
  have m6n : 6 ≤ c := by omega
  have m8n : 8 ≤ c := by omega
  have m10n : ¬ c = 10 := by omega
  have m4x : ¬ c = 4 := by omega
  have m6x : ¬ c = 6 := by omega
  clear hfs hfq hfk hfd hcut
  have HC1 : Aside0 (∀ W, Below w.heap.size w W → Calls Try.prog 24 #[.slice (some ad) 4 c] W (fun e W' => e = .returned (.int .i64 fs) ∧ W' = W)) := ⟨fun W hW => number_at W (some ad) 4 c (b.take 4) HL4'.out (Kd.C_below HR4.out hW) HB4.out (by omega) (by omega) fs HFS.out⟩
  have HC2 : Aside0 (∀ W, Below w.heap.size w W → Calls Try.prog 24 #[.slice (some ⟨ad.block, ad.off + 4, none⟩) 2 (c - 4)] W (fun e W' => e = .returned (.int .i64 fq) ∧ W' = W)) := ⟨fun W hW => number_at W (some ⟨ad.block, ad.off + 4, none⟩) 2 (c - 4) ((b.drop 4).take 2) HQ2.out (Kd.C_below HM4.out hW) HBQ.out (by omega) (by omega) fq HFQ.out⟩
  have HC3 : Aside0 (∀ W, Below w.heap.size w W → Calls Try.prog 24 #[.slice (some ⟨ad.block, ad.off + 6, none⟩) 2 (c - 6)] W (fun e W' => e = .returned (.int .i64 fk) ∧ W' = W)) := ⟨fun W hW => number_at W (some ⟨ad.block, ad.off + 6, none⟩) 2 (c - 6) ((b.drop 6).take 2) HK2.out (Kd.C_below HM6.out hW) HBK.out (by omega) (by omega) fk HFK.out⟩
  have HC4 : Aside0 (∀ W, Below w.heap.size w W → Calls Try.prog 22 #[.slice (some ⟨ad.block, ad.off + 10, none⟩) (H - 10) (c - 10)] W (fun e W' => ∃ A3 d3, e = .returned (.slice A3 fd.length d3) ∧ OB W' W.heap.size (.slice A3 fd.length d3) fd ∧ Below W.heap.size W W')) := ⟨fun W hW => clone_at W (some ⟨ad.block, ad.off + 10, none⟩) (H - 10) (c - 10) fd HDN.out.1 (Kd.C_below HM10.out hW) HDN.out.2⟩
  have hwf : IntKind.u32.wrap fs = fs := IntWalk.u32_in _ ⟨s0, by omega⟩
  have HSZ : Aside0 (w.heap.size < w2.heap.size) := ⟨(Array.getElem?_eq_some_iff.1 HH2.out).1⟩
  have HBD : Aside0 (Below w.heap.size w w2.drew) := ⟨below_drew HB2.out⟩
  have HMG : Aside0 (¬ (FR.mk fs fq fk fd).mayP → readF b = (FR.zero, 70)) := ⟨fun h => HM.out HXY.out (by rw [HFO.out]; exact h)⟩
  have HGG : Aside0 ((FR.mk fs fq fk fd).mayP → readF b = (FR.mk fs fq fk fd, 0)) := ⟨fun h => by rw [← HFO.out] at h ⊢; exact HG.out HXY.out h⟩
  have HDL := Aside0.mk HDN.out.2
  clear HM HG HFO HR4 HM4 HM6 HM10 HL4' HQ2 HK2 HDN HB4 HBQ HBK HFS HFQ HFK HFDB HR HX HRT HRH HRTL HRHL HL4 HXE HYE HDR HTK HRT2 HRH2 HXY HSUM HS HN HNE HR8 HN2 hx0 hx1 hy0 hy1 hne g1 g2 c0 c1 c2 c3 f0 f1 f2 f3
  go_wp2_with fail
  go_region_held_law (fun W => True) (exact trivial)
    (first
     | (refine step_call (by rfl) 24 #[.tmp 44] #[28] (by rfl) #[.slice (some ad) 4 c] (by rfl) Try.f24 Try.func24 (by kernel_rfl) (by kernel_rfl) ?_; refine (HC1.out _ (by first | exact (Aside0.out (by assumption)) | exact below_alloc (Aside0.out (by assumption)) _)).mono ?_; rintro e wn ⟨rfl, rfl⟩; refine ⟨_, rfl, ?_⟩)
     | (refine step_call (by rfl) 24 #[.tmp 48] #[28] (by rfl) #[.slice (some ⟨ad.block, ad.off + 4, none⟩) 2 (c - 4)] (by rfl) Try.f24 Try.func24 (by kernel_rfl) (by kernel_rfl) ?_; refine (HC2.out _ (by first | exact (Aside0.out (by assumption)) | exact below_alloc (Aside0.out (by assumption)) _)).mono ?_; rintro e wn ⟨rfl, rfl⟩; refine ⟨_, rfl, ?_⟩)
     | (refine step_call (by rfl) 24 #[.tmp 51] #[28] (by rfl) #[.slice (some ⟨ad.block, ad.off + 6, none⟩) 2 (c - 6)] (by rfl) Try.f24 Try.func24 (by kernel_rfl) (by kernel_rfl) ?_; refine (HC3.out _ (by first | exact (Aside0.out (by assumption)) | exact below_alloc (Aside0.out (by assumption)) _)).mono ?_; rintro e wn ⟨rfl, rfl⟩; refine ⟨_, rfl, ?_⟩)
     | (refine step_call (by rfl) 22 #[.tmp 56] #[28] (by rfl) #[.slice (some ⟨ad.block, ad.off + 10, none⟩) (H - 10) (c - 10)] (by rfl) Try.f22 Try.func22 (by kernel_rfl) (by kernel_rfl) ?_; refine (HC4.out _ (by first | exact (Aside0.out (by assumption)) | exact below_alloc (Aside0.out (by assumption)) _)).mono ?_; rintro e w3 ⟨A3, d3, rfl, ho3, hb3⟩; have HO3 := Aside0.mk ho3; have HB3 := Aside0.mk hb3; (try (have hh3 := (hb3.block w2.heap.size (by simp)).trans (heap_alloc_new w2.drew _); obtain ⟨t0, t1, t2, t3, r0, r1, r2, r3⟩ := four_cells hh3; have HH3 := Aside0.mk hh3; clear hh3)); clear ho3 hb3; refine ⟨_, rfl, ?_⟩))
  · obtain ⟨wF, hwF⟩ : ∃ wF, wF = w3.alloc (.cells #[.int .u32 fs, .int .i64 fq, .int .i64 fk, .slice A3 fd.length d3] 39) := ⟨_, rfl⟩
    have h2 : w2.drew.heap.size = w2.heap.size := rfl
    have hb3 : Below w2.heap.size w2 w3 := by have := HB3.out; rw [h2] at this; exact (below_drew (Below.refl _ _)).trans this
    have hhf : wF.heap[w3.heap.size]? = some (.cells #[.int .u32 fs, .int .i64 fq, .int .i64 fk, .slice A3 fd.length d3] 39 (0, 0)) := by rw [hwF]; exact heap_alloc_new w3 _
    have hb3F : Below w3.heap.size w3 wF := by rw [hwF]; exact below_alloc (Below.refl _ _) _
    have hbF : Below w2.heap.size w2 wF := hb3.trans (hb3F.mono hb3.size)
    have hoF : OB wF w2.heap.size (.slice A3 fd.length d3) fd := HO3.out.below hb3F
    have hpp : w2.heap.size ≤ w3.heap.size := hb3.size
    obtain ⟨p, hp⟩ : ∃ p, p = w3.heap.size := ⟨_, rfl⟩
    rw [← hp] at hhf hpp ⊢
    rw [← hwF]
    have HF := Aside0.mk hhf
    have HBF := Aside0.mk hbF
    have HOF := Aside0.mk hoF
    have HPP := Aside0.mk hpp
    clear h2 hb3 hhf hb3F hbF hoF hpp hp hwF HO3 HB3
    obtain ⟨t0, t1, t2, t3, r0, r1, r2, r3⟩ := four_cells HF.out
    have HBW := Aside0.mk (HB2.out.trans (HBF.out.mono (Nat.le_of_lt HSZ.out)))
    by_cases hmay : (FR.mk fs fq fk fd).mayP
    · have HMB := Aside0.mk (mayB_yes hmay)
      have HV := Aside0.mk (HGG.out hmay)
      clear hmay
      go_wp2_with fail
      refine (may_calls _ ⟨fs, fq, fk, fd⟩ A3 d3 (by have := HDL.out; dsimp only; omega)).mono ?_
      rw [HMB.out]
      rintro e w5 ⟨rfl, hb5⟩
      have HB5 := Aside0.mk (HBW.out.trans (hb5.mono HBW.out.size))
      have HF5 := Aside0.mk (blk_keep HF.out hb5)
      have HO5 := Aside0.mk (HOF.out.below hb5)
      have HR5 := Aside0.mk (blk_keep (blk_keep HH2.out HBF.out) hb5)
      clear hb5 t0 t1 t2 t3 r0 r1 r2 r3
      obtain ⟨t0, t1, t2, t3, r0, r1, r2, r3⟩ := four_cells HF5.out
      obtain ⟨c0, c1, c2, c3, f0, f1, f2, f3⟩ := four_cells HR5.out
      go_wp2_with fail
      refine bodyPost_ret (v := .tuple #[.agg #[.int .u32 fs, .int .i64 fq, .int .i64 fk, .slice A3 fd.length d3], .int .i64 0]) (by simp [results, Try.results10, go_sem, c0, c1, c2, c3, f0, f1, f2, f3]) rfl ?_
      rw [HV.out]
      exact ⟨A3, d3, rfl, OB.set4 HO5.out HSZ.out (Nat.le_of_lt HSZ.out) _ _ _ _, below_set4 HB5.out (Nat.le_refl _) _ _ _ _⟩
    · have HMB := Aside0.mk (mayB_no hmay)
      have HV := Aside0.mk (HMG.out hmay)
      clear hmay
      go_wp2_with fail
      refine (may_calls _ ⟨fs, fq, fk, fd⟩ A3 d3 (by have := HDL.out; dsimp only; omega)).mono ?_
      rw [HMB.out]
      rintro e w5 ⟨rfl, hb5⟩
      have HB5 := Aside0.mk (HBW.out.trans (hb5.mono HBW.out.size))
      have HR5 := Aside0.mk (blk_keep (blk_keep HH2.out HBF.out) hb5)
      clear hb5 t0 t1 t2 t3 r0 r1 r2 r3
      obtain ⟨c0, c1, c2, c3, f0, f1, f2, f3⟩ := four_cells HR5.out
      go_wp2_with fail
      refine bodyPost_ret (v := .tuple #[.agg #[.int .u32 0, .int .i64 0, .int .i64 0, .slice none 0 0], .int .i64 70]) (by simp [results, Try.results10, go_sem, c0, c1, c2, c3, f0, f1, f2, f3]) rfl ?_
      exact retfr_zero HV.out (below_set4 HB5.out (Nat.le_refl _) _ _ _ _)
  all_goals
    obtain ⟨wF, hwF⟩ : ∃ wF, wF = ((((w3.setCell ⟨w2.heap.size, 0, none⟩ (.int .u32 fs)).setCell ⟨w2.heap.size, 1, none⟩ (.int .i64 fq)).setCell ⟨w2.heap.size, 2, none⟩ (.int .i64 fk)).setCell ⟨w2.heap.size, 3, none⟩ (.slice A3 fd.length d3)) := ⟨_, rfl⟩
    have h2 : (w2.alloc (.cells #[.int .u32 0, .int .i64 0, .int .i64 0, .slice none 0 0] 39)).drew.heap.size = w2.heap.size + 1 := by simp
    have hb3 := HB3.out
    have ho3 := HO3.out
    rw [h2] at hb3 ho3
    have hb3 : Below w2.heap.size w2 w3 := (below_drew (below_alloc (Below.refl _ _) _)).trans (hb3.mono (Nat.le_succ _))
    have hhf : wF.heap[w2.heap.size]? = some (.cells #[.int .u32 fs, .int .i64 fq, .int .i64 fk, .slice A3 fd.length d3] 39 (0, 0)) := by rw [hwF]; exact set4 HH3.out _ _ _ _
    have hbF : Below w2.heap.size w2 wF := by rw [hwF]; exact below_set4 hb3 (Nat.le_refl _) _ _ _ _
    have hoF : OB wF w2.heap.size (.slice A3 fd.length d3) fd := by
      rw [hwF]
      exact own_move (ho3.lower (Nat.le_succ _)) (fun k hk => set4_far _ _ _ _ _ _ k (fun e => by have := own_base ho3 k hk; omega))
    have hpp : w2.heap.size ≤ w2.heap.size := Nat.le_refl _
    obtain ⟨p, hp⟩ : ∃ p, p = w2.heap.size := ⟨_, rfl⟩
    rw [← hwF]
    have HF := Aside0.mk hhf
    have HBF := Aside0.mk hbF
    have HOF := Aside0.mk hoF
    have HPP := Aside0.mk hpp
    clear h2 hb3 ho3 hhf hbF hoF hpp hwF HO3 HB3 t0 t1 t2 t3 r0 r1 r2 r3 HH3
    rw [← hp] at HF
    rw [← hp]
    clear hp
    obtain ⟨t0, t1, t2, t3, r0, r1, r2, r3⟩ := four_cells HF.out
    have HBW := Aside0.mk (HB2.out.trans (HBF.out.mono (Nat.le_of_lt HSZ.out)))
    by_cases hmay : (FR.mk fs fq fk fd).mayP
    · have HMB := Aside0.mk (mayB_yes hmay)
      have HV := Aside0.mk (HGG.out hmay)
      clear hmay
      go_wp2_with fail
      refine (may_calls _ ⟨fs, fq, fk, fd⟩ A3 d3 (by have := HDL.out; dsimp only; omega)).mono ?_
      rw [HMB.out]
      rintro e w5 ⟨rfl, hb5⟩
      have HB5 := Aside0.mk (HBW.out.trans (hb5.mono HBW.out.size))
      have HF5 := Aside0.mk (blk_keep HF.out hb5)
      have HO5 := Aside0.mk (HOF.out.below hb5)
      have HR5 := Aside0.mk (blk_keep (blk_keep HH2.out HBF.out) hb5)
      clear hb5 t0 t1 t2 t3 r0 r1 r2 r3
      obtain ⟨t0, t1, t2, t3, r0, r1, r2, r3⟩ := four_cells HF5.out
      obtain ⟨c0, c1, c2, c3, f0, f1, f2, f3⟩ := four_cells HR5.out
      go_wp2_with fail
      refine bodyPost_ret (v := .tuple #[.agg #[.int .u32 fs, .int .i64 fq, .int .i64 fk, .slice A3 fd.length d3], .int .i64 0]) (by simp [results, Try.results10, go_sem, c0, c1, c2, c3, f0, f1, f2, f3]) rfl ?_
      rw [HV.out]
      exact ⟨A3, d3, rfl, OB.set4 HO5.out HSZ.out (Nat.le_of_lt HSZ.out) _ _ _ _, below_set4 HB5.out (Nat.le_refl _) _ _ _ _⟩
    · have HMB := Aside0.mk (mayB_no hmay)
      have HV := Aside0.mk (HMG.out hmay)
      clear hmay
      go_wp2_with fail
      refine (may_calls _ ⟨fs, fq, fk, fd⟩ A3 d3 (by have := HDL.out; dsimp only; omega)).mono ?_
      rw [HMB.out]
      rintro e w5 ⟨rfl, hb5⟩
      have HB5 := Aside0.mk (HBW.out.trans (hb5.mono HBW.out.size))
      have HR5 := Aside0.mk (blk_keep (blk_keep HH2.out HBF.out) hb5)
      clear hb5 t0 t1 t2 t3 r0 r1 r2 r3
      obtain ⟨c0, c1, c2, c3, f0, f1, f2, f3⟩ := four_cells HR5.out
      go_wp2_with fail
      refine bodyPost_ret (v := .tuple #[.agg #[.int .u32 0, .int .i64 0, .int .i64 0, .slice none 0 0], .int .i64 70]) (by simp [results, Try.results10, go_sem, c0, c1, c2, c3, f0, f1, f2, f3]) rfl ?_
      exact retfr_zero HV.out (below_set4 HB5.out (Nat.le_refl _) _ _ _ _)
end Go.Proofs.YtpkclecgaheplaaR.Oct
