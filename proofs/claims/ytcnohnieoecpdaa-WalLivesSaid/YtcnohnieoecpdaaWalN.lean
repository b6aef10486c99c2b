import Derived.Test.YtcnohnieoecpdaaWalL
/- The document's Write. -/
namespace Go.Proofs.Ytcnohnieoecpdaa.Oct
open Go.RowKit Go.Proofs.YtcnohnieoecpdaaW.PrintWords Go.Proofs.Ytcnohnieoecpdaa.M
set_option linter.unusedVariables false
set_option linter.unusedSimpArgs false
theorem putM_two {v : Int} (h0 : 0 ≤ v) (h : v ≤ 1024) : putM v 2 = ([v / 256, v % 256], 0) := by
  unfold putM
  rw [if_neg (by omega), if_neg (by simp; omega)]
  have e : beB v ((2 : Int)).toNat = [v / 256 % 256, v % 256] := by simp [beB, List.range, List.range.loop, beAt]
  rw [e, Int.emod_eq_of_lt (by omega) (by omega : v / 256 < 256)]
set_option maxHeartbeats 4000000 in
theorem rwrite_good (w : World) (r : Rc) (A : Option Addr) (c : Nat) (hr : Kd.C (Kd.int .u8) w A r.2.length r.2) (hb : Bytes r.2) (hg : r.good) :
    Calls Try.prog 13 #[.agg #[.int .i64 r.1, .slice A r.2.length c]] w (RetWW w (writeR r)) := by
  have HV := Aside0.mk (writeR_good hg)
  have HR := Aside0.mk hr
  have HFB := Aside0.mk (Rc.front_bytes hg hb)
  have HFL := Aside0.mk (Rc.front_len r)
  have HAL : Aside0 (r.all = r.front ++ beB (sumOf r.front) 4) := ⟨rfl⟩
  have HFE : Aside0 (r.front = ([(r.2.length : Int) / 256, (r.2.length : Int) % 256] ++ [r.1]) ++ r.2) := ⟨rfl⟩
  obtain ⟨fr, hfr⟩ : ∃ fr, fr = r.front := ⟨_, rfl⟩
  rw [← hfr] at HFB HFL HAL HFE
  have hsr := sumOf_range fr
  have HPS := Aside0.mk (putM_four hsr.1 hsr.2)
  obtain ⟨sm, hsm⟩ : ∃ sm, sm = sumOf fr := ⟨_, rfl⟩
  rw [← hsm] at HPS HAL hsr
  have HSM := Aside0.mk hsm
  obtain ⟨hs0, hs1⟩ := hsr
  obtain ⟨k, d⟩ := r
  obtain ⟨hk1, hk2, hd⟩ := hg
  dsimp only at hk1 hk2 hd HR HFE HFL HAL HV ⊢
  have hd' : (d.length : Int) ≤ 1024 := by omega
  have HD := Aside0.mk hd
  have HP2 := Aside0.mk (putM_two (v := (d.length : Int)) (by omega) hd')
  have hu : IntKind.u64.wrap (d.length : Int) = (d.length : Int) := by simp [IntKind.wrap, IntKind.bits]; omega
  have hku : IntKind.u8.wrap k = k := Go.wraps_u8 k (by omega) (by omega)
  obtain ⟨z2, hz2⟩ : ∃ z2, z2 = [(d.length : Int) / 256, (d.length : Int) % 256] := ⟨_, rfl⟩
  rw [← hz2] at HFE HP2
  obtain ⟨z3, hz3⟩ : ∃ z3, z3 = z2 ++ [k] := ⟨_, rfl⟩
  have HZ3 := Aside0.mk hz3
  rw [← hz3] at HFE
  have HZL2 : Aside0 (z2.length = 2) := ⟨by rw [hz2]; rfl⟩
  have HZL3 : Aside0 (z3.length = 3) := ⟨by rw [hz3, List.length_append, HZL2.out]; rfl⟩
  obtain ⟨w0, hw0⟩ : ∃ w0, w0 = w.alloc (.cells #[.int .i64 k, .slice A d.length c] 24) := ⟨_, rfl⟩
  have HW0 := Aside0.mk hw0
  have HB0 : Aside0 (Below w.heap.size w w0) := ⟨by rw [hw0]; exact below_alloc (Below.refl _ _) _⟩
  have HH0 : Aside0 (w0.heap[w.heap.size]? = some (.cells #[.int .i64 k, .slice A d.length c] 24 (0, 0))) := ⟨by rw [hw0]; exact heap_alloc_new w _⟩
  have HDL : Aside0 ((0 : Int) ≤ (d.length : Int) ∧ (d.length : Int) < 18446744073709551616) := ⟨by omega⟩
  clear hr hb hd hfr hsm hz2 hz3 hw0
  go_enter Try.func13, Try.ntmps13
  go_wp2_with fail
  rw [← HW0.out]
  refine (rput_calls _ (d.length : Int) 2 HDL.out.1 HDL.out.2).mono ?_
  rintro e w1 ⟨v1, rfl, ho1, hb1⟩
  rw [HP2.out] at ho1 ⊢
  dsimp only at ho1 ⊢
  have HH1 := blk_keep HH0.out hb1
  obtain ⟨c0, c1, _, _⟩ := two_cells' HH1
  have HQ1 := Aside0.mk (((QB.of_OB ho1).lower HB0.out.size).below (below_alloc (Below.refl w1.heap.size w1) (.cells #[.int .u8 k] 5)))
  obtain ⟨A1, c1', rfl, _⟩ := ho1.reads
  have HH2 := Aside0.mk (blk_keep HH1 (below_alloc (Below.refl w1.heap.size w1) (.cells #[.int .u8 k] 5)))
  have HL1 : Aside0 (Kd.C (Kd.int .u8) (w1.alloc (.cells #[.int .u8 k] 5)) (some ⟨w1.heap.size, 0, none⟩) [k].length [k]) := ⟨(lit_at w1 w1.heap.size w1.heap.size [k] rfl (Nat.le_refl _) (by simp)).C⟩
  have HB1 := Aside0.mk (below_alloc (HB0.out.trans (hb1.mono HB0.out.size)) (.cells #[.int .u8 k] 5))
  have HNE : Aside0 (∀ k, (Value.slice A1 z2.length c1').ownBlock = some k → w.heap.size < k) := ⟨fun k e => by
    have h1 := (OwnAt.block (QB.of_OB ho1) e).1
    have h2 := (Array.getElem?_eq_some_iff.1 HH0.out).1
    omega⟩
  clear ho1 hb1 HH1
  go_wp2_with (first
    | ((with_reducible refine gate_dst (N := 33) rfl ?_); at_builtin; refine app_q w.heap.size rfl (.tmp 28) (.tmp 32) rfl (.slice A1 z2.length c1') z2 [k] (some ⟨w1.heap.size, 0, none⟩) 1 1 rfl rfl rfl HQ1.out HL1.out HB1.out.size (by have := HZL2.out; simp only [List.length_cons, List.length_nil]; omega) ?_; intro v3 w3 ho3 hg3 hn3; rw [← HZ3.out] at ho3; obtain ⟨A3, c3, rfl, _⟩ := ho3.form; have HQ3 := Aside0.mk ho3; have HB3 := Aside0.mk (HB1.out.grown hg3 HB1.out.size (fun k hk => (HQ1.out.block hk).1)); have HH3 := (hg3.block _ (Array.getElem?_eq_some_iff.1 HH2.out).1 (fun e => by have := HNE.out _ e.symm; omega)).trans HH2.out; obtain ⟨d0, d1, _, _⟩ := two_cells' HH3; have HC3 := Aside0.mk (Kd.C_below HR.out HB3.out); clear HH3 hg3 ho3 hn3)
    | ((with_reducible refine gate_dst (N := 37) rfl ?_); at_builtin; refine app_q w.heap.size rfl (.tmp 34) (.tmp 36) rfl (.slice A3 z3.length c3) z3 d A d.length c rfl rfl rfl HQ3.out HC3.out HB3.out.size (by have := HZL3.out; have := HD.out; omega) ?_; intro v4 w4 ho4 hg4 _; rw [← HFE.out] at ho4; obtain ⟨A4, c4, rfl, _⟩ := ho4.form; have HQ4 := Aside0.mk ho4; have HB4 := Aside0.mk (HB3.out.grown hg4 HB3.out.size (fun k hk => (HQ3.out.block hk).1)); clear hg4 ho4))
  refine (rsum_calls _ A4 c4 fr HQ4.out.C HFB.out).mono ?_
  rw [← HSM.out]
  rintro e w5 ⟨rfl, rfl⟩
  go_wp2_with fail
  refine (rput_calls _ sm 4 hs0 (by omega)).mono ?_
  rintro e w6 ⟨v6, rfl, ho6, hb6⟩
  rw [HPS.out] at ho6 ⊢
  obtain ⟨A6, c6, rfl, hr6⟩ := ho6.reads
  have HR6 := Aside0.mk hr6
  have HQ6 := Aside0.mk (HQ4.out.below hb6)
  have HB6 := Aside0.mk (HB4.out.trans (hb6.mono HB4.out.size))
  obtain ⟨z, hz⟩ : ∃ z, z = beB sm 4 := ⟨_, rfl⟩
  have HZL : Aside0 (z.length = 4) := ⟨by rw [hz]; exact beB_length _ _⟩
  rw [← hz] at HR6 HAL ⊢
  have HLL : Aside0 (fr.length + z.length ≤ 140737488355328) := ⟨by have h1 := HFL.out; have h2 := HZL.out; have h3 := HD.out; omega⟩
  clear ho6 hb6 hr6 hz
  go_wp2_with ((with_reducible refine gate_dst (N := 47) rfl ?_); at_builtin; refine app_q w.heap.size rfl (.tmp 45) (.tmp 46) rfl (.slice A4 fr.length c4) fr z A6 z.length c6 rfl rfl rfl HQ6.out HR6.out HB6.out.size HLL.out ?_; intro v7 w7 ho7 hg7 _; rw [← HAL.out] at ho7; have HO7 := Aside0.mk ho7; have HB7 := Aside0.mk (HB6.out.grown hg7 HB6.out.size (fun k hk => (HQ6.out.block hk).1)); clear ho7 hg7)
  go_ret2
  rw [HV.out]
  exact ⟨_, rfl, HO7.out, HB7.out⟩
set_option maxHeartbeats 2000000 in
theorem rwrite_calls (w : World) (r : Rc) (A : Option Addr) (c : Nat) (hr : Kd.C (Kd.int .u8) w A r.2.length r.2) (hb : Bytes r.2) :
    Calls Try.prog 13 #[.agg #[.int .i64 r.1, .slice A r.2.length c]] w (RetWW w (writeR r)) := by
  by_cases hg : r.good
  · exact rwrite_good w r A c hr hb hg
  · have hl : r.2.length ≤ 9223372036854775807 := hr.2.1
    have hc : r.1 < 1 ∨ (¬ r.1 < 1 ∧ 255 < r.1) ∨ (¬ r.1 < 1 ∧ ¬ 255 < r.1 ∧ 1024 < (r.2.length : Int)) := by unfold Rc.good at hg; omega
    rcases hc with h1 | ⟨h1, h2⟩ | ⟨h1, h2, h3⟩
    · have HV := Aside0.mk (writeR_kind (r := r) (.inl h1))
      clear hr hb hg
      go_enter Try.func13, Try.ntmps13
      go_wp2
      go_ret2
      rw [HV.out]
      exact ⟨_, rfl, QB.nil _ _, below_alloc (Below.refl _ _) _⟩
    · have HV := Aside0.mk (writeR_kind (r := r) (.inr h2))
      clear hr hb hg
      go_enter Try.func13, Try.ntmps13
      go_wp2
      go_ret2
      rw [HV.out]
      exact ⟨_, rfl, QB.nil _ _, below_alloc (Below.refl _ _) _⟩
    · have HV := Aside0.mk (writeR_long (r := r) (by omega) (by omega))
      clear hr hb hg
      go_enter Try.func13, Try.ntmps13
      go_wp2
      go_ret2
      rw [HV.out]
      exact ⟨_, rfl, QB.nil _ _, below_alloc (Below.refl _ _) _⟩
end Go.Proofs.Ytcnohnieoecpdaa.Oct
