import Derived.Test.YtpkclecgaheplaaRTmW
/- psh.Read, of what psh.Write wrote. -/
namespace Go.Proofs.YtpkclecgaheplaaR.Oct
open Go.RowKit Go.Proofs.YtpkclecgaheplaaRW.PrintWords Go.Proofs.YtpkclecgaheplaaR.M
set_option linter.unusedVariables false
set_option linter.unusedSimpArgs false
abbrev zeroM : Obj := .cells #[.int .i64 0, .int .i64 0, .int .u32 0, .int .u32 0, .bool false, .int .u32 0, .int .u32 0] 36
abbrev kindM (k : Int) : Obj := .cells #[.int .i64 k, .int .i64 0, .int .u32 0, .int .u32 0, .bool false, .int .u32 0, .int .u32 0] 36
theorem below7 {n g : Nat} {w W : World} (h : Below n w W) (hg : n ≤ g) (x0 x1 x2 x3 x4 x5 x6 : Value) : Below n w (((((((W.setCell ⟨g, 0, none⟩ x0).setCell ⟨g, 1, none⟩ x1).setCell ⟨g, 2, none⟩ x2).setCell ⟨g, 3, none⟩ x3).setCell ⟨g, 4, none⟩ x4).setCell ⟨g, 5, none⟩ x5).setCell ⟨g, 6, none⟩ x6) :=
  ((((((h.setCell (p := ⟨g, 0, none⟩) hg x0).setCell (p := ⟨g, 1, none⟩) hg x1).setCell (p := ⟨g, 2, none⟩) hg x2).setCell (p := ⟨g, 3, none⟩) hg x3).setCell (p := ⟨g, 4, none⟩) hg x4).setCell (p := ⟨g, 5, none⟩) hg x5).setCell (p := ⟨g, 6, none⟩) hg x6
set_option maxRecDepth 20000 in
set_option maxHeartbeats 4000000 in
theorem pread_refuse (w : World) (a : Mg) (A : Option Addr) (c : Nat) (hr : a.right) (ho : a.ok) (hk : a.k = 13) (h : Kd.C (Kd.int .u8) w A a.bytes.length a.bytes) (hc : a.bytes.length ≤ c) (hc63 : c ≤ 9223372036854775807) :
    Calls Try.prog 25 #[.slice A a.bytes.length c] w fun e w' => e = .returned (.tuple #[mgV a, .int .i64 0]) ∧ Below w.heap.size w w' := by
  have HRT : Aside0 (∀ W, Calls Try.prog 15 #[mgV a] W fun e w' => e = .returned (.bool true) ∧ Below W.heap.size W w') := ⟨fun W => by have := pright_calls W a; rw [decide_eq_true hr] at this; exact this⟩
  have hlen := a.bytes_len
  have hkk := Mg.kind hr
  obtain ⟨k, u, l, s, x, m, y⟩ := a
  dsimp only at hk hkk
  obtain ⟨N, hN⟩ : ∃ N, N = (Mg.bytes ⟨k, u, l, s, x, m, y⟩).length := ⟨_, rfl⟩
  obtain ⟨d, hd⟩ : ∃ d, d = Mg.data ⟨k, u, l, s, x, m, y⟩ := ⟨_, rfl⟩
  rw [← hN, ← hd] at hlen
  rw [← hN] at h hc ⊢
  have HNX : Aside0 (∀ W, Below w.heap.size w W → Calls Try.prog 30 #[.slice A N c] W fun e w' => ∃ A2 c2, e = .returned (.tuple #[.agg #[.int .i64 (4864 + k), .slice A2 d.length c2], .int .i64 (N : Int), .int .i64 0]) ∧ QB w' W.heap.size (.slice A2 d.length c2) d ∧ d.length ≤ c2 ∧ Below W.heap.size W w') := ⟨fun W hW => by
    have hC : Kd.C (Kd.int .u8) W A (4 + d.length) (gdsB (4864 + k) d) := by rw [← hlen, hd]; exact Kd.C_below h hW
    have := gnext_calls W (4864 + k) A c d hC (by rw [hd]; exact Mg.data_bytes hr) (by rw [hd]; exact Mg.data_len _) (by omega) (by omega) hc63
    rw [← hlen] at this
    exact this⟩
  have g1 : (4864 + k) - 4864 = k := by omega
  have g2 : IntKind.i64.wrap (4864 + k - 4864) = k := by rw [g1]; exact IntWalk.i64_in _ (by omega)
  have g3 : IntKind.i64.wrap k = k := IntWalk.i64_in _ (by omega)
  obtain ⟨w0, hw0⟩ : ∃ w0, w0 = w.alloc zeroM := ⟨_, rfl⟩
  have HB0 : Aside0 (Below w.heap.size w w0) := ⟨by rw [hw0]; exact below_alloc (Below.refl _ _) _⟩
  have HH0 : Aside0 (w0.heap[w.heap.size]? = some zeroM) := ⟨by rw [hw0]; exact heap_alloc_new w _⟩
  have HW0 := Aside0.mk hw0
  have HZ : Aside0 (u = 0 ∧ l = 0 ∧ s = 0 ∧ x = false ∧ m = 0 ∧ y = 0) := ⟨by
    rcases hr with h | h | h
    · have := h.1; dsimp only at this; omega
    · exact h.2
    · have := h.1; dsimp only at this; omega⟩
  have HDL : Aside0 (d.length = 0) := ⟨by rw [hd]; unfold Mg.data; dsimp only; rw [if_neg (by omega), if_pos hk]; rfl⟩
  have HNN : Aside0 (N = 4) := ⟨by rw [hlen, HDL.out]⟩
  obtain ⟨rfl, rfl, rfl, rfl, rfl, rfl⟩ := HZ.out
  have b1 : (k == 12) = false := beq_eq_false_iff_ne.2 (by omega)
  have b2 : (k == 13) = true := beq_iff_eq.2 hk
  clear hr ho h hc hlen hN hd hw0 hk hkk
  go_enter Try.func25, Try.ntmps25
  go_wp2_with fail
  rw [← HW0.out]
  refine (HNX.out _ HB0.out).mono ?_
  rintro e w1 ⟨A2, c2, rfl, hq, hc2, hb1⟩
  rw [HDL.out]
  have HQ := Aside0.mk hq
  have hc2 : 0 ≤ c2 := by rw [← HDL.out]; exact hc2
  have hc63 : c2 ≤ 9223372036854775807 := by obtain ⟨_, _, e, _, hm, _⟩ := hq.form; injection e with _ _ e3; rw [e3]; simp only [maxLen] at hm; omega
  have HB1 := Aside0.mk (HB0.out.trans (hb1.mono HB0.out.size))
  have HH1 := Aside0.mk (blk_keep HH0.out hb1)
  have hN4 : (N : Int) = 4 := by rw [HNN.out]; rfl
  have HLT : Aside0 (w.heap.size < w1.heap.size) := ⟨(Array.getElem?_eq_some_iff.1 HH1.out).1⟩
  clear hb1 hq
  go_wp2_with fail
  obtain ⟨V, hV⟩ : ∃ V, V = (w1.alloc (.cells #[.int .i64 (4864 + k), .slice A2 0 c2] 60)).alloc (kindM k) := ⟨_, rfl⟩
  have HBV : Aside0 (Below w.heap.size w V) := ⟨by rw [hV]; exact below_alloc (below_alloc HB1.out _) _⟩
  have H7V : Aside0 (V.heap[w1.heap.size + 1]? = some (kindM k)) := ⟨by rw [hV]; exact heap_alloc_new' (w1.alloc _) _ _ (by simp)⟩
  have H2V : Aside0 (V.heap[w.heap.size]? = some zeroM) := ⟨by rw [hV]; exact blk_keep (blk_keep HH1.out (below_alloc (Below.refl _ _) _)) (below_alloc (Below.refl _ _) _)⟩
  rw [← hV]
  clear hV
  refine (HRT.out _).mono ?_
  rintro e w9 ⟨rfl, hb9⟩
  have H79 := blk_keep H7V.out hb9
  have H29 := blk_keep H2V.out hb9
  have HB9 := Aside0.mk (HBV.out.trans (hb9.mono HBV.out.size))
  obtain ⟨⟨v0, v1, v2, v3, v4, v5, v6⟩, _⟩ := seven_frz H79
  obtain ⟨⟨r0, r1, r2, r3, r4, r5, r6⟩, f0, f1, f2, f3, f4, f5, f6⟩ := seven_frz H29
  clear hb9 H79 H29
  go_wp2_with fail
  refine bodyPost_ret (v := .tuple #[mgV ⟨k, 0, 0, 0, false, 0, 0⟩, .int .i64 0]) (by simp [results, Try.results25, go_sem, r0, r1, r2, r3, r4, r5, r6, f0, f1, f2, f3, f4, f5, f6]) rfl ?_
  exact ⟨rfl, below7 HB9.out (Nat.le_refl _) _ _ _ _ _ _ _⟩
set_option maxRecDepth 20000 in
set_option maxHeartbeats 4000000 in
theorem pread_names (w : World) (a : Mg) (A : Option Addr) (c : Nat) (hr : a.right) (ho : a.ok) (hk : a.k = 12) (h : Kd.C (Kd.int .u8) w A a.bytes.length a.bytes) (hc : a.bytes.length ≤ c) (hc63 : c ≤ 9223372036854775807) :
    Calls Try.prog 25 #[.slice A a.bytes.length c] w fun e w' => e = .returned (.tuple #[mgV a, .int .i64 0]) ∧ Below w.heap.size w w' := by
  have HRT : Aside0 (∀ W, Calls Try.prog 15 #[mgV a] W fun e w' => e = .returned (.bool true) ∧ Below W.heap.size W w') := ⟨fun W => by have := pright_calls W a; rw [decide_eq_true hr] at this; exact this⟩
  have hlen := a.bytes_len
  have hkk := Mg.kind hr
  obtain ⟨k, u, l, s, x, m, y⟩ := a
  dsimp only at hk hkk
  obtain ⟨N, hN⟩ : ∃ N, N = (Mg.bytes ⟨k, u, l, s, x, m, y⟩).length := ⟨_, rfl⟩
  obtain ⟨d, hd⟩ : ∃ d, d = Mg.data ⟨k, u, l, s, x, m, y⟩ := ⟨_, rfl⟩
  rw [← hN, ← hd] at hlen
  rw [← hN] at h hc ⊢
  have HNX : Aside0 (∀ W, Below w.heap.size w W → Calls Try.prog 30 #[.slice A N c] W fun e w' => ∃ A2 c2, e = .returned (.tuple #[.agg #[.int .i64 (4864 + k), .slice A2 d.length c2], .int .i64 (N : Int), .int .i64 0]) ∧ QB w' W.heap.size (.slice A2 d.length c2) d ∧ d.length ≤ c2 ∧ Below W.heap.size W w') := ⟨fun W hW => by
    have hC : Kd.C (Kd.int .u8) W A (4 + d.length) (gdsB (4864 + k) d) := by rw [← hlen, hd]; exact Kd.C_below h hW
    have := gnext_calls W (4864 + k) A c d hC (by rw [hd]; exact Mg.data_bytes hr) (by rw [hd]; exact Mg.data_len _) (by omega) (by omega) hc63
    rw [← hlen] at this
    exact this⟩
  have g1 : (4864 + k) - 4864 = k := by omega
  have g2 : IntKind.i64.wrap (4864 + k - 4864) = k := by rw [g1]; exact IntWalk.i64_in _ (by omega)
  have g3 : IntKind.i64.wrap k = k := IntWalk.i64_in _ (by omega)
  obtain ⟨w0, hw0⟩ : ∃ w0, w0 = w.alloc zeroM := ⟨_, rfl⟩
  have HB0 : Aside0 (Below w.heap.size w w0) := ⟨by rw [hw0]; exact below_alloc (Below.refl _ _) _⟩
  have HH0 : Aside0 (w0.heap[w.heap.size]? = some zeroM) := ⟨by rw [hw0]; exact heap_alloc_new w _⟩
  have HW0 := Aside0.mk hw0
  have HZ : Aside0 (u = 0 ∧ l = 0 ∧ s = 0 ∧ x = false) := ⟨by
    rcases hr with h | h | h
    · exact h.2.2
    · have := h.1; dsimp only at this; omega
    · have := h.1; dsimp only at this; omega⟩
  have HDD : Aside0 (d = beB m 4 ++ beB y 4) := ⟨by rw [hd]; unfold Mg.data; dsimp only; rw [if_pos hk]⟩
  have HDL : Aside0 (d.length = 8) := ⟨by rw [HDD.out, List.length_append, beB_length, beB_length]⟩
  have HNN : Aside0 (N = 12) := ⟨by rw [hlen, HDL.out]⟩
  obtain ⟨rfl, rfl, rfl, rfl⟩ := HZ.out
  have b1 : (k == 12) = true := beq_iff_eq.2 hk
  have hm := ho.2.2.2.2.1
  have hy := ho.2.2.2.2.2
  dsimp only at hm hy
  have e1 : IntKind.u32.wrap m = m := by rw [IntKind.wrap_u32]; omega
  have e2 : IntKind.u32.wrap y = y := by rw [IntKind.wrap_u32]; omega
  have HM := Aside0.mk (And.intro hm hy)
  clear hr ho h hc hlen hN hd hw0 hk hkk hm hy
  go_enter Try.func25, Try.ntmps25
  go_wp2_with fail
  rw [← HW0.out]
  refine (HNX.out _ HB0.out).mono ?_
  rintro e w1 ⟨A2, c2, rfl, hq, hc2, hb1⟩
  rw [HDL.out]
  have HQ := Aside0.mk hq
  have hc2 : 8 ≤ c2 := by rw [← HDL.out]; exact hc2
  have hc63 : c2 ≤ 9223372036854775807 := by obtain ⟨_, _, e, _, hm, _⟩ := hq.form; injection e with _ _ e3; rw [e3]; simp only [maxLen] at hm; omega
  have HB1 := Aside0.mk (HB0.out.trans (hb1.mono HB0.out.size))
  have HH1 := Aside0.mk (blk_keep HH0.out hb1)
  have hN4 : (N : Int) = 12 := by rw [HNN.out]; rfl
  have HLT : Aside0 (w.heap.size < w1.heap.size) := ⟨(Array.getElem?_eq_some_iff.1 HH1.out).1⟩
  clear hb1 hq
  have hCd := HQ.out.C
  obtain ⟨ad, rfl, _⟩ := C_byte hCd (k := 0) (by rw [HDL.out]; decide)
  have hC4 : Kd.C (Kd.int .u8) w1 (some ad) (beB m 4).length (beB m 4) := by
    have := C_take hCd 4 (by rw [HDL.out]; decide)
    rw [HDD.out, List.take_left' (beB_length _ _)] at this
    rw [beB_length]
    exact this
  have hC8 : Kd.C (Kd.int .u8) w1 (some ⟨ad.block, ad.off + 4, none⟩) (beB y 4).length (beB y 4) := by
    have := C_drop hCd (k := 4) (by rw [HDL.out]; decide)
    rw [HDL.out, HDD.out, List.drop_left' (beB_length _ _)] at this
    rw [beB_length]
    exact this
  have HG1 : Aside0 (∀ W, Below w1.heap.size w1 W → Calls Try.prog 29 #[.slice (some ad) 4 c2] W fun e w' => e = .returned (.tuple #[.int .u64 m, .int .i64 0]) ∧ w' = W) := ⟨fun W hW => by
    have := get_calls W (some ad) c2 (beB m 4) (Kd.C_below hC4 hW) (beB_bytes _ _)
    rw [getM_good (by rw [beB_length]; decide) (by rw [beB_length]; decide), getF_beB4 HM.out.1.1 HM.out.1.2, beB_length] at this
    exact this⟩
  have HG2 : Aside0 (∀ W, Below w1.heap.size w1 W → Calls Try.prog 29 #[.slice (some ⟨ad.block, ad.off + 4, none⟩) 4 (c2 - 4)] W fun e w' => e = .returned (.tuple #[.int .u64 y, .int .i64 0]) ∧ w' = W) := ⟨fun W hW => by
    have := get_calls W (some ⟨ad.block, ad.off + 4, none⟩) (c2 - 4) (beB y 4) (Kd.C_below hC8 hW) (beB_bytes _ _)
    rw [getM_good (by rw [beB_length]; decide) (by rw [beB_length]; decide), getF_beB4 HM.out.2.1 HM.out.2.2, beB_length] at this
    exact this⟩
  have n4 : ¬ c2 = 4 := by omega
  have n4' : (8 : Int) ≤ (c2 : Int) := by omega
  clear hCd hC4 hC8
  go_wp2_with fail
  obtain ⟨V0, hV0⟩ : ∃ V0, V0 = (w1.alloc (.cells #[.int .i64 (4864 + k), .slice (some ad) 8 c2] 60)).alloc (kindM k) := ⟨_, rfl⟩
  have HB10 : Aside0 (Below w1.heap.size w1 V0) := ⟨by rw [hV0]; exact below_alloc (below_alloc (Below.refl _ _) _) _⟩
  have H70 : Aside0 (V0.heap[w1.heap.size + 1]? = some (kindM k)) := ⟨by rw [hV0]; exact heap_alloc_new' (w1.alloc _) _ _ (by simp)⟩
  have H40 : Aside0 (V0.heap[w1.heap.size]? = some (.cells #[.int .i64 (4864 + k), .slice (some ad) 8 c2] 60 (0, 0))) := ⟨by rw [hV0]; exact blk_keep (heap_alloc_new w1 _) (below_alloc (Below.refl _ _) _)⟩
  rw [← hV0]
  clear hV0
  obtain ⟨p0, p1, _, _⟩ := two_cells2 H40.out
  obtain ⟨⟨v0, v1, v2, v3, v4, v5, v6⟩, h0, h1, h2, h3, h4, h5, h6⟩ := seven_frz H70.out
  refine (HG1.out _ HB10.out).mono ?_
  rintro e w' ⟨rfl, hw'⟩
  have hw' := hw'.symm
  subst hw'
  go_wp2_with fail
  refine (HG2.out _ HB10.out).mono ?_
  rintro e w' ⟨rfl, hw'⟩
  have hw' := hw'.symm
  subst hw'
  go_wp2_with fail
  obtain ⟨V, hV⟩ : ∃ V, V = (V0.setCell ⟨w1.heap.size + 1, 5, none⟩ (.int .u32 m)).setCell ⟨w1.heap.size + 1, 6, none⟩ (.int .u32 y) := ⟨_, rfl⟩
  have HBV : Aside0 (Below w.heap.size w V) := ⟨by rw [hV]; exact ((HB1.out.trans (HB10.out.mono HB1.out.size)).setCell (p := ⟨w1.heap.size + 1, 5, none⟩) (by have := HLT.out; show _ ≤ w1.heap.size + 1; omega) _).setCell (p := ⟨w1.heap.size + 1, 6, none⟩) (by have := HLT.out; show _ ≤ w1.heap.size + 1; omega) _⟩
  have H7V : Aside0 (V.heap[w1.heap.size + 1]? = some (mgC ⟨k, 0, 0, 0, false, m, y⟩)) := ⟨by rw [hV]; exact heap_set _ (heap_set _ H70.out)⟩
  have H2V : Aside0 (V.heap[w.heap.size]? = some zeroM) := ⟨by rw [hV, Below.heap_setCell _ ⟨w1.heap.size + 1, 6, none⟩ _ _ (by have := HLT.out; show _ ≠ w1.heap.size + 1; omega), Below.heap_setCell _ ⟨w1.heap.size + 1, 5, none⟩ _ _ (by have := HLT.out; show _ ≠ w1.heap.size + 1; omega)]; exact blk_keep HH1.out HB10.out⟩
  rw [← hV]
  clear hV p0 p1 v0 v1 v2 v3 v4 v5 v6 h0 h1 h2 h3 h4 h5 h6
  refine (HRT.out _).mono ?_
  rintro e w9 ⟨rfl, hb9⟩
  have H79 := blk_keep H7V.out hb9
  have H29 := blk_keep H2V.out hb9
  have HB9 := Aside0.mk (HBV.out.trans (hb9.mono HBV.out.size))
  obtain ⟨⟨v0, v1, v2, v3, v4, v5, v6⟩, _⟩ := seven_frz H79
  obtain ⟨⟨r0, r1, r2, r3, r4, r5, r6⟩, f0, f1, f2, f3, f4, f5, f6⟩ := seven_frz H29
  clear hb9 H79 H29
  go_wp2_with fail
  refine bodyPost_ret (v := .tuple #[mgV ⟨k, 0, 0, 0, false, m, y⟩, .int .i64 0]) (by simp [results, Try.results25, go_sem, r0, r1, r2, r3, r4, r5, r6, f0, f1, f2, f3, f4, f5, f6]) rfl ?_
  exact ⟨rfl, below7 HB9.out (Nat.le_refl _) _ _ _ _ _ _ _⟩
set_option maxRecDepth 20000 in
set_option maxHeartbeats 4000000 in
theorem pread_work (w : World) (a : Mg) (A : Option Addr) (c : Nat) (hr : a.right) (ho : a.ok) (hk : a.k ≠ 12) (hk' : a.k ≠ 13) (h : Kd.C (Kd.int .u8) w A a.bytes.length a.bytes) (hc : a.bytes.length ≤ c) (hc63 : c ≤ 9223372036854775807) :
    Calls Try.prog 25 #[.slice A a.bytes.length c] w fun e w' => e = .returned (.tuple #[mgV a, .int .i64 0]) ∧ Below w.heap.size w w' := by
  have HRT : Aside0 (∀ W, Calls Try.prog 15 #[mgV a] W fun e w' => e = .returned (.bool true) ∧ Below W.heap.size W w') := ⟨fun W => by have := pright_calls W a; rw [decide_eq_true hr] at this; exact this⟩
  have hlen := a.bytes_len
  have hkk := Mg.kind hr
  obtain ⟨k, u, l, s, x, m, y⟩ := a
  dsimp only at hk hk' hkk
  obtain ⟨N, hN⟩ : ∃ N, N = (Mg.bytes ⟨k, u, l, s, x, m, y⟩).length := ⟨_, rfl⟩
  obtain ⟨d, hd⟩ : ∃ d, d = Mg.data ⟨k, u, l, s, x, m, y⟩ := ⟨_, rfl⟩
  rw [← hN, ← hd] at hlen
  rw [← hN] at h hc ⊢
  have HNX : Aside0 (∀ W, Below w.heap.size w W → Calls Try.prog 30 #[.slice A N c] W fun e w' => ∃ A2 c2, e = .returned (.tuple #[.agg #[.int .i64 (4864 + k), .slice A2 d.length c2], .int .i64 (N : Int), .int .i64 0]) ∧ QB w' W.heap.size (.slice A2 d.length c2) d ∧ d.length ≤ c2 ∧ Below W.heap.size W w') := ⟨fun W hW => by
    have hC : Kd.C (Kd.int .u8) W A (4 + d.length) (gdsB (4864 + k) d) := by rw [← hlen, hd]; exact Kd.C_below h hW
    have := gnext_calls W (4864 + k) A c d hC (by rw [hd]; exact Mg.data_bytes hr) (by rw [hd]; exact Mg.data_len _) (by omega) (by omega) hc63
    rw [← hlen] at this
    exact this⟩
  have g1 : (4864 + k) - 4864 = k := by omega
  have g2 : IntKind.i64.wrap (4864 + k - 4864) = k := by rw [g1]; exact IntWalk.i64_in _ (by omega)
  have g3 : IntKind.i64.wrap k = k := IntWalk.i64_in _ (by omega)
  obtain ⟨w0, hw0⟩ : ∃ w0, w0 = w.alloc zeroM := ⟨_, rfl⟩
  have HB0 : Aside0 (Below w.heap.size w w0) := ⟨by rw [hw0]; exact below_alloc (Below.refl _ _) _⟩
  have HH0 : Aside0 (w0.heap[w.heap.size]? = some zeroM) := ⟨by rw [hw0]; exact heap_alloc_new w _⟩
  have HW0 := Aside0.mk hw0
  have HZ : Aside0 (luwP u s ∧ m = 0 ∧ y = 0) := ⟨by
    rcases hr with h | h | h
    · have := h.1; dsimp only at this; omega
    · have := h.1; dsimp only at this; omega
    · exact ⟨h.2.1, h.2.2.2⟩⟩
  have HLP : Aside0 (luwP u s) := ⟨HZ.out.1⟩
  have HLS : Aside0 ((0 ≤ l ∧ l < 4294967296) ∧ (0 ≤ s ∧ s < 4294967296)) := ⟨ho.2.2.1, ho.2.2.2.1⟩
  have hk12 : k < 12 := by
    rcases hr with h | h | h
    · have := h.1; dsimp only at this; omega
    · have := h.1; dsimp only at this; omega
    · exact h.1.2
  have HDD : Aside0 (d = rawB u l s ++ [if x then 1 else 0]) := ⟨by rw [hd]; unfold Mg.data; dsimp only; rw [if_neg (by omega), if_neg (by omega)]⟩
  have HDL : Aside0 (d.length = 10) := ⟨by rw [HDD.out, List.length_append, rawB_len]; rfl⟩
  have HNN : Aside0 (N = 14) := ⟨by rw [hlen, HDL.out]⟩
  obtain ⟨rfl, rfl⟩ := HZ.out.2
  have b1 : (k == 12) = false := beq_eq_false_iff_ne.2 (by omega)
  have b2 : (k == 13) = false := beq_eq_false_iff_ne.2 (by omega)
  clear hr ho h hc hlen hN hd hw0 hk hk' hkk
  go_enter Try.func25, Try.ntmps25
  go_wp2_with fail
  rw [← HW0.out]
  refine (HNX.out _ HB0.out).mono ?_
  rintro e w1 ⟨A2, c2, rfl, hq, hc2, hb1⟩
  rw [HDL.out]
  have HQ := Aside0.mk hq
  have hc2 : 10 ≤ c2 := by rw [← HDL.out]; exact hc2
  have hc63 : c2 ≤ 9223372036854775807 := by obtain ⟨_, _, e, _, hm, _⟩ := hq.form; injection e with _ _ e3; rw [e3]; simp only [maxLen] at hm; omega
  have HB1 := Aside0.mk (HB0.out.trans (hb1.mono HB0.out.size))
  have HH1 := Aside0.mk (blk_keep HH0.out hb1)
  have hN4 : (N : Int) = 14 := by rw [HNN.out]; rfl
  have HLT : Aside0 (w.heap.size < w1.heap.size) := ⟨(Array.getElem?_eq_some_iff.1 HH1.out).1⟩
  clear hb1 hq
  have hCd := HQ.out.C
  obtain ⟨ad, rfl, _⟩ := C_byte hCd (k := 0) (by rw [HDL.out]; decide)
  cases x
  · have p9 : w1.cell? ⟨ad.block, ad.off + 9, none⟩ = some (.int .u8 0) := by
      obtain ⟨_, e, hc9⟩ := C_byte hCd (k := 9) (by rw [HDL.out]; decide)
      cases e
      rw [HDD.out] at hc9
      rw [List.getD_eq_getElem?_getD, List.getElem?_append_right (by rw [rawB_len]; exact Nat.le_refl _), rawB_len] at hc9
      exact hc9
    have HL9 : Aside0 (∀ W, Below w1.heap.size w1 W → Calls Try.prog 31 #[.slice (some ad) 9 c2] W fun e w' => e = .returned (.tuple #[luwV u l s, .int .i64 0]) ∧ Below W.heap.size W w') := ⟨fun W hW => by
      have hC9 : Kd.C (Kd.int .u8) W (some ad) 9 (rawB u l s) := by
        have := C_take hCd 9 (by rw [HDL.out]; decide)
        rw [HDD.out, List.take_left' (rawB_len _ _ _)] at this
        exact Kd.C_below this hW
      exact lread_calls W (some ad) c2 u l s hC9 (by omega) hc63 HLP.out HLS.out.1 HLS.out.2⟩
    have HP9 : Aside0 (∀ W, Below w1.heap.size w1 W → W.cell? ⟨ad.block, ad.off + 9, none⟩ = some (.int .u8 0)) := ⟨fun W hW => (hW.cell (World.block_lt_of_cell? _ _ p9)).trans p9⟩
    have n9 : (9 : Int) ≤ (c2 : Int) := by omega
    clear hCd
    obtain ⟨V0, hV0⟩ : ∃ V0, V0 = (w1.alloc (.cells #[.int .i64 (4864 + k), .slice (some ad) 10 c2] 60)).alloc (kindM k) := ⟨_, rfl⟩
    have HB10 : Aside0 (Below w1.heap.size w1 V0) := ⟨by rw [hV0]; exact below_alloc (below_alloc (Below.refl _ _) _) _⟩
    have H70 : Aside0 (V0.heap[w1.heap.size + 1]? = some (kindM k)) := ⟨by rw [hV0]; exact heap_alloc_new' (w1.alloc _) _ _ (by simp)⟩
    have H40 : Aside0 (V0.heap[w1.heap.size]? = some (.cells #[.int .i64 (4864 + k), .slice (some ad) 10 c2] 60 (0, 0))) := ⟨by rw [hV0]; exact blk_keep (heap_alloc_new w1 _) (below_alloc (Below.refl _ _) _)⟩
    have q9 := HP9.out _ HB10.out
    rw [hV0] at q9
    go_wp2_with fail
    rw [← hV0]
    clear hV0 q9
    refine (HL9.out _ HB10.out).mono ?_
    rintro e w3 ⟨rfl, hb3⟩
    have HB13 := Aside0.mk (HB10.out.trans (hb3.mono HB10.out.size))
    have H73 := Aside0.mk (blk_keep H70.out hb3)
    have H43 := Aside0.mk (blk_keep H40.out hb3)
    clear hb3
    obtain ⟨p0, p1, _, _⟩ := two_cells2 H43.out
    obtain ⟨⟨v0, v1, v2, v3, v4, v5, v6⟩, h0, h1, h2, h3, h4, h5, h6⟩ := seven_frz H73.out
    have q9 := HP9.out _ HB13.out
    obtain ⟨V, hV⟩ : ∃ V, V = ((w3.setCell ⟨w1.heap.size + 1, 1, none⟩ (.int .i64 u)).setCell ⟨w1.heap.size + 1, 2, none⟩ (.int .u32 l)).setCell ⟨w1.heap.size + 1, 3, none⟩ (.int .u32 s) := ⟨_, rfl⟩
    have hle : w.heap.size ≤ w1.heap.size + 1 := by have := HLT.out; omega
    have HBV : Aside0 (Below w.heap.size w V) := ⟨by rw [hV]; exact (((HB1.out.trans (HB13.out.mono HB1.out.size)).setCell (p := ⟨w1.heap.size + 1, 1, none⟩) hle _).setCell (p := ⟨w1.heap.size + 1, 2, none⟩) hle _).setCell (p := ⟨w1.heap.size + 1, 3, none⟩) hle _⟩
    have hne : w.heap.size ≠ w1.heap.size + 1 := by have := HLT.out; omega
    have hne4 : w1.heap.size ≠ w1.heap.size + 1 := by omega
    have hblk : ∀ k, k ≠ w1.heap.size + 1 → V.heap[k]? = w3.heap[k]? := fun k hk => by rw [hV, Below.heap_setCell _ ⟨w1.heap.size + 1, 3, none⟩ _ _ hk, Below.heap_setCell _ ⟨w1.heap.size + 1, 2, none⟩ _ _ hk, Below.heap_setCell _ ⟨w1.heap.size + 1, 1, none⟩ _ _ hk]
    have H7V : Aside0 (V.heap[w1.heap.size + 1]? = some (mgC ⟨k, u, l, s, false, 0, 0⟩)) := ⟨by rw [hV]; exact heap_set _ (heap_set _ (heap_set _ H73.out))⟩
    have H2V : Aside0 (V.heap[w.heap.size]? = some zeroM) := ⟨(hblk _ hne).trans (blk_keep HH1.out HB13.out)⟩
    have H4V : Aside0 (V.heap[w1.heap.size]? = some (.cells #[.int .i64 (4864 + k), .slice (some ad) 10 c2] 60 (0, 0))) := ⟨(hblk _ hne4).trans H43.out⟩
    have q9V : V.cell? ⟨ad.block, ad.off + 9, none⟩ = some (.int .u8 0) := by
      rw [← q9]
      exact World.cell?_of_block (hblk _ (by have := World.block_lt_of_cell? _ _ p9; show ad.block ≠ _; have h9 : ad.block < w1.heap.size := this; omega))
    go_wp2_with fail
    rw [← hV]
    obtain ⟨V2, hV2⟩ : ∃ V2, V2 = V.setCell ⟨w1.heap.size + 1, 4, none⟩ (.bool false) := ⟨_, rfl⟩
    have HBV : Aside0 (Below w.heap.size w V2) := ⟨by rw [hV2]; exact HBV.out.setCell (p := ⟨w1.heap.size + 1, 4, none⟩) hle _⟩
    have H7V : Aside0 (V2.heap[w1.heap.size + 1]? = some (mgC ⟨k, u, l, s, false, 0, 0⟩)) := ⟨by rw [hV2]; exact heap_set _ H7V.out⟩
    have H2V : Aside0 (V2.heap[w.heap.size]? = some zeroM) := ⟨by rw [hV2, Below.heap_setCell _ ⟨w1.heap.size + 1, 4, none⟩ _ _ hne]; exact H2V.out⟩
    rw [← hV2]
    clear hV hV2 hblk q9 q9V p9 p0 p1 v0 v1 v2 v3 v4 v5 v6 h0 h1 h2 h3 h4 h5 h6
    refine (HRT.out _).mono ?_
    rintro e w9 ⟨rfl, hb9⟩
    have H79 := blk_keep H7V.out hb9
    have H29 := blk_keep H2V.out hb9
    have HB9 := Aside0.mk (HBV.out.trans (hb9.mono HBV.out.size))
    obtain ⟨⟨v0, v1, v2, v3, v4, v5, v6⟩, _⟩ := seven_frz H79
    obtain ⟨⟨r0, r1, r2, r3, r4, r5, r6⟩, f0, f1, f2, f3, f4, f5, f6⟩ := seven_frz H29
    clear hb9 H79 H29
    go_wp2_with fail
    refine bodyPost_ret (v := .tuple #[mgV ⟨k, u, l, s, false, 0, 0⟩, .int .i64 0]) (by simp [results, Try.results25, go_sem, r0, r1, r2, r3, r4, r5, r6, f0, f1, f2, f3, f4, f5, f6]) rfl ?_
    exact ⟨rfl, below7 HB9.out (Nat.le_refl _) _ _ _ _ _ _ _⟩
  · have p9 : w1.cell? ⟨ad.block, ad.off + 9, none⟩ = some (.int .u8 1) := by
      obtain ⟨_, e, hc9⟩ := C_byte hCd (k := 9) (by rw [HDL.out]; decide)
      cases e
      rw [HDD.out] at hc9
      rw [List.getD_eq_getElem?_getD, List.getElem?_append_right (by rw [rawB_len]; exact Nat.le_refl _), rawB_len] at hc9
      exact hc9
    have HL9 : Aside0 (∀ W, Below w1.heap.size w1 W → Calls Try.prog 31 #[.slice (some ad) 9 c2] W fun e w' => e = .returned (.tuple #[luwV u l s, .int .i64 0]) ∧ Below W.heap.size W w') := ⟨fun W hW => by
      have hC9 : Kd.C (Kd.int .u8) W (some ad) 9 (rawB u l s) := by
        have := C_take hCd 9 (by rw [HDL.out]; decide)
        rw [HDD.out, List.take_left' (rawB_len _ _ _)] at this
        exact Kd.C_below this hW
      exact lread_calls W (some ad) c2 u l s hC9 (by omega) hc63 HLP.out HLS.out.1 HLS.out.2⟩
    have HP9 : Aside0 (∀ W, Below w1.heap.size w1 W → W.cell? ⟨ad.block, ad.off + 9, none⟩ = some (.int .u8 1)) := ⟨fun W hW => (hW.cell (World.block_lt_of_cell? _ _ p9)).trans p9⟩
    have n9 : (9 : Int) ≤ (c2 : Int) := by omega
    clear hCd
    obtain ⟨V0, hV0⟩ : ∃ V0, V0 = (w1.alloc (.cells #[.int .i64 (4864 + k), .slice (some ad) 10 c2] 60)).alloc (kindM k) := ⟨_, rfl⟩
    have HB10 : Aside0 (Below w1.heap.size w1 V0) := ⟨by rw [hV0]; exact below_alloc (below_alloc (Below.refl _ _) _) _⟩
    have H70 : Aside0 (V0.heap[w1.heap.size + 1]? = some (kindM k)) := ⟨by rw [hV0]; exact heap_alloc_new' (w1.alloc _) _ _ (by simp)⟩
    have H40 : Aside0 (V0.heap[w1.heap.size]? = some (.cells #[.int .i64 (4864 + k), .slice (some ad) 10 c2] 60 (0, 0))) := ⟨by rw [hV0]; exact blk_keep (heap_alloc_new w1 _) (below_alloc (Below.refl _ _) _)⟩
    have q9 := HP9.out _ HB10.out
    rw [hV0] at q9
    go_wp2_with fail
    rw [← hV0]
    clear hV0 q9
    refine (HL9.out _ HB10.out).mono ?_
    rintro e w3 ⟨rfl, hb3⟩
    have HB13 := Aside0.mk (HB10.out.trans (hb3.mono HB10.out.size))
    have H73 := Aside0.mk (blk_keep H70.out hb3)
    have H43 := Aside0.mk (blk_keep H40.out hb3)
    clear hb3
    obtain ⟨p0, p1, _, _⟩ := two_cells2 H43.out
    obtain ⟨⟨v0, v1, v2, v3, v4, v5, v6⟩, h0, h1, h2, h3, h4, h5, h6⟩ := seven_frz H73.out
    have q9 := HP9.out _ HB13.out
    obtain ⟨V, hV⟩ : ∃ V, V = ((w3.setCell ⟨w1.heap.size + 1, 1, none⟩ (.int .i64 u)).setCell ⟨w1.heap.size + 1, 2, none⟩ (.int .u32 l)).setCell ⟨w1.heap.size + 1, 3, none⟩ (.int .u32 s) := ⟨_, rfl⟩
    have hle : w.heap.size ≤ w1.heap.size + 1 := by have := HLT.out; omega
    have HBV : Aside0 (Below w.heap.size w V) := ⟨by rw [hV]; exact (((HB1.out.trans (HB13.out.mono HB1.out.size)).setCell (p := ⟨w1.heap.size + 1, 1, none⟩) hle _).setCell (p := ⟨w1.heap.size + 1, 2, none⟩) hle _).setCell (p := ⟨w1.heap.size + 1, 3, none⟩) hle _⟩
    have hne : w.heap.size ≠ w1.heap.size + 1 := by have := HLT.out; omega
    have hne4 : w1.heap.size ≠ w1.heap.size + 1 := by omega
    have hblk : ∀ k, k ≠ w1.heap.size + 1 → V.heap[k]? = w3.heap[k]? := fun k hk => by rw [hV, Below.heap_setCell _ ⟨w1.heap.size + 1, 3, none⟩ _ _ hk, Below.heap_setCell _ ⟨w1.heap.size + 1, 2, none⟩ _ _ hk, Below.heap_setCell _ ⟨w1.heap.size + 1, 1, none⟩ _ _ hk]
    have H7V : Aside0 (V.heap[w1.heap.size + 1]? = some (mgC ⟨k, u, l, s, false, 0, 0⟩)) := ⟨by rw [hV]; exact heap_set _ (heap_set _ (heap_set _ H73.out))⟩
    have H2V : Aside0 (V.heap[w.heap.size]? = some zeroM) := ⟨(hblk _ hne).trans (blk_keep HH1.out HB13.out)⟩
    have H4V : Aside0 (V.heap[w1.heap.size]? = some (.cells #[.int .i64 (4864 + k), .slice (some ad) 10 c2] 60 (0, 0))) := ⟨(hblk _ hne4).trans H43.out⟩
    have q9V : V.cell? ⟨ad.block, ad.off + 9, none⟩ = some (.int .u8 1) := by
      rw [← q9]
      exact World.cell?_of_block (hblk _ (by have := World.block_lt_of_cell? _ _ p9; show ad.block ≠ _; have h9 : ad.block < w1.heap.size := this; omega))
    go_wp2_with fail
    rw [← hV]
    obtain ⟨V2, hV2⟩ : ∃ V2, V2 = V.setCell ⟨w1.heap.size + 1, 4, none⟩ (.bool true) := ⟨_, rfl⟩
    have HBV : Aside0 (Below w.heap.size w V2) := ⟨by rw [hV2]; exact HBV.out.setCell (p := ⟨w1.heap.size + 1, 4, none⟩) hle _⟩
    have H7V : Aside0 (V2.heap[w1.heap.size + 1]? = some (mgC ⟨k, u, l, s, true, 0, 0⟩)) := ⟨by rw [hV2]; exact heap_set _ H7V.out⟩
    have H2V : Aside0 (V2.heap[w.heap.size]? = some zeroM) := ⟨by rw [hV2, Below.heap_setCell _ ⟨w1.heap.size + 1, 4, none⟩ _ _ hne]; exact H2V.out⟩
    rw [← hV2]
    clear hV hV2 hblk q9 q9V p9 p0 p1 v0 v1 v2 v3 v4 v5 v6 h0 h1 h2 h3 h4 h5 h6
    refine (HRT.out _).mono ?_
    rintro e w9 ⟨rfl, hb9⟩
    have H79 := blk_keep H7V.out hb9
    have H29 := blk_keep H2V.out hb9
    have HB9 := Aside0.mk (HBV.out.trans (hb9.mono HBV.out.size))
    obtain ⟨⟨v0, v1, v2, v3, v4, v5, v6⟩, _⟩ := seven_frz H79
    obtain ⟨⟨r0, r1, r2, r3, r4, r5, r6⟩, f0, f1, f2, f3, f4, f5, f6⟩ := seven_frz H29
    clear hb9 H79 H29
    go_wp2_with fail
    refine bodyPost_ret (v := .tuple #[mgV ⟨k, u, l, s, true, 0, 0⟩, .int .i64 0]) (by simp [results, Try.results25, go_sem, r0, r1, r2, r3, r4, r5, r6, f0, f1, f2, f3, f4, f5, f6]) rfl ?_
    exact ⟨rfl, below7 HB9.out (Nat.le_refl _) _ _ _ _ _ _ _⟩
theorem pread_calls (w : World) (a : Mg) (A : Option Addr) (c : Nat) (hr : a.right) (ho : a.ok) (h : Kd.C (Kd.int .u8) w A a.bytes.length a.bytes) (hc : a.bytes.length ≤ c) (hc63 : c ≤ 9223372036854775807) :
    Calls Try.prog 25 #[.slice A a.bytes.length c] w fun e w' => e = .returned (.tuple #[mgV a, .int .i64 0]) ∧ Below w.heap.size w w' := by
  by_cases hk : a.k = 12
  · exact pread_names w a A c hr ho hk h hc hc63
  by_cases hk' : a.k = 13
  · exact pread_refuse w a A c hr ho hk' h hc hc63
  · exact pread_work w a A c hr ho hk hk' h hc hc63
end Go.Proofs.YtpkclecgaheplaaR.Oct
