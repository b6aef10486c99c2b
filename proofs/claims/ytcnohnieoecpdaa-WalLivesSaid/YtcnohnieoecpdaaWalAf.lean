import Derived.Test.YtcnohnieoecpdaaWalAe
/- The document's Add. -/
namespace Go.Proofs.Ytcnohnieoecpdaa.Oct
open Go.RowKit Go.Proofs.YtcnohnieoecpdaaW.PrintWords Go.Proofs.Ytcnohnieoecpdaa.M
set_option linter.unusedVariables false
set_option linter.unusedSimpArgs false
theorem own_form {W : World} {b : Nat} {e : TypeId} {s : Nat} {v : Value} {n : Nat} {xs : List Value} (h : OwnAt W b e s v n xs) : ∃ A c, v = .slice A n c := by
  rcases h.2 with ⟨e, h0⟩ | ⟨g, off, cap, cur, e, _⟩
  · exact ⟨none, 0, by rw [e, h0]⟩
  · exact ⟨_, _, e⟩
theorem RetM.front {base : Nat} {w w1 w2 : World} {y x : Nat} {H : Nat → Prop} {u : TS} {us : List Rc} {n : Int} {e : Ending} (hb : Below w.heap.size w w1) (hr : RetM base w1 y x H u us n e w2) : RetM base w y x H u us n e w2 := by
  obtain ⟨rfl, h, hk2⟩ := hr
  refine ⟨rfl, ?_, (Kept.of_below H hb).trans hk2 (fun _ _ h => h)⟩
  obtain ⟨T, L, D, v, h1, h2, h3, h4, h5, h6, h7⟩ := h
  exact ⟨T, L, D, v, h1, h2, h3, h4, h5, h6, fun k hk' => ⟨(h7 k hk').1, (h7 k hk').2.1, (h7 k hk').2.2.1.elim .inl (fun a => .inr (Nat.le_trans hb.size a)), (h7 k hk').2.1⟩⟩
/-- one step of a region that draws: append(v, r), r in a block of its own -/
theorem step_mrec {ops : Array Oper} {o : Oper} {a : Act} {K : Act → World → Prop} {Q : Exit → Act → World → Prop} {E : Prop} {W : World} (hgd : o.guard = none) (s x : Operand)
    (ho : o.op = .call { callee := .builtin .append, args := #[s, x], argTypes := #[30, 30] })
    (v : Value) (n g : Nat) (z : Int) (B : Option Addr) (m c : Nat) (vs : List Value) (hs : a.eval s = v) (hx : a.eval x = .slice (some ⟨g, 0, none⟩) 1 1) (e1 : OwnAt W 0 24 2 v n vs) (hb : W.heap[g]? = some (.cells #[.int .i64 z, .slice B m c] 24 (0, 0))) (hl : n ≤ 1000000000)
    (h : ∀ A1 c1 w1, OwnAt w1 0 24 2 (.slice A1 (n + 1) c1) (n + 1) (vs ++ [.int .i64 z, .slice B m c]) → W.grownBy w1 v.ownBlock → ((Value.slice A1 (n + 1) c1).ownBlock = v.ownBlock ∨ ∃ b, (Value.slice A1 (n + 1) c1).ownBlock = some b ∧ W.heap.size ≤ b) → K (a.put o.dst (.slice A1 (n + 1) c1)) w1) :
    if Region.wanted o (yielded ops a.tmps) = true then Oper.wp Try.prog o a W K Q else E := by
  obtain ⟨i0, hi0, hz0, hz1, hz2⟩ := info_parts info_rec
  obtain ⟨x0, x1, _, _⟩ := two_cells' hb
  refine step_append_at W hgd s x 30 ho 0 24 i0 (.agg #[.int .i64 0, .slice none 0 0]) 2 32 Try.underlying30 hi0 hz0 hz1 hz2 rfl (by decide) v n vs hs e1 (some ⟨g, 0, none⟩) 1 1 [.int .i64 z, .slice B m c] hx rfl (fun _ => ⟨_, rfl, fun j u' hu' => ?_⟩) (fun u' hu' => ?_) (by simp only [maxLen]; omega) (by omega) (Nat.zero_le _) ?_
  · match j, hu' with
    | 0, hu' => simp at hu'; subst hu'; simpa [Addr.add] using x0
    | 1, hu' => simp at hu'; subst hu'; simpa [Addr.add] using x1
  · rcases List.mem_cons.1 hu' with rfl | hu'
    · rfl
    · obtain rfl := List.mem_singleton.1 hu'
      rfl
  · intro v1 w1 ho1 hg hn
    obtain ⟨A1, c1, rfl⟩ := own_form ho1
    exact h A1 c1 w1 ho1 hg hn
set_option maxRecDepth 20000 in
set_option maxHeartbeats 16000000 in
theorem radd_calls (w : World) (base y x : Nat) (u : TS) (us : List Rc) (H : Nat → Prop) (r : Rc) (A : Option Addr) (c : Nat) (f : Bool) (h : MAt base w y x u us H) (hH : ∀ k, H k → base ≤ k ∧ k < w.heap.size) (hbs : base ≤ w.heap.size) (hr : ∀ W, Below base w W → Kd.C (Kd.int .u8) W A r.2.length r.2) (hcap : r.2.length ≤ c) (hb : Bytes r.2) (hll : us.length ≤ 1000000) :
    Calls Try.prog 34 #[.pointer (some ⟨y, 0, none⟩), .agg #[.int .i64 r.1, .slice A r.2.length c], .bool f] w (RetM base w y x H (addP u us r f).1 (addP u us r f).2.1 (addP u us r f).2.2) := by
  have HRK := Aside0.mk hr
  have HHH := Aside0.mk hH
  have HR := Aside0.mk (hr w (Below.refl _ _))
  have HCAP := Aside0.mk hcap
  have HB := Aside0.mk hb
  have HBS := Aside0.mk hbs
  have HLL := Aside0.mk hll
  obtain ⟨n, hn⟩ : ∃ n, n = r.2.length := ⟨_, rfl⟩
  obtain ⟨b0, hb0⟩ : ∃ b0, b0 = w.heap.size := ⟨_, rfl⟩
  obtain ⟨w0, hw0⟩ : ∃ w0, w0 = w.alloc (.cells #[.int .i64 r.1, .slice A n c] 24) := ⟨_, rfl⟩
  have HW0 := Aside0.mk hw0
  have HB0 : Aside0 (Below w.heap.size w w0) := ⟨by rw [hw0]; exact below_alloc (Below.refl _ _) _⟩
  have HH0 : Aside0 (w0.heap[b0]? = some (.cells #[.int .i64 r.1, .slice A n c] 24 (0, 0))) := ⟨by rw [hw0, hb0]; exact heap_alloc_new w _⟩
  have HBB := Aside0.mk hb0
  have HN := Aside0.mk hn
  have HM0 := Aside0.mk h
  have HEND : Aside0 (∀ (w1 : World) (n : Int), Below w.heap.size w w1 → RetM base w y x H u us n (.returned (.int .i64 n)) w1) := ⟨fun w1 n hb => by
    refine ⟨rfl, ?_, Kept.of_below H hb⟩
    obtain ⟨T, L, D, v, h1, h2, h3, h4, h5, h6, h7⟩ := HM0.out.below hb HBS.out
    exact ⟨T, L, D, v, h1, h2, h3, h4, h5, h6, fun k hk => ⟨(h7 k hk).1, (h7 k hk).2.1, .inl (h7 k hk).2.2, (h7 k hk).2.1⟩⟩⟩
  have HWR : Aside0 (∀ W, Below w.heap.size w W → Calls Try.prog 13 #[.agg #[.int .i64 r.1, .slice A n c]] W (RetWW W (writeR r))) := ⟨fun W hW => by rw [HN.out]; exact rwrite_calls W r A c (Kd.C_below HR.out hW) HB.out⟩
  have HQ0 : Aside0 (∀ W, Below w.heap.size w W → W.cell? ⟨y, 0, none⟩ = some (.pointer (some ⟨x, 0, none⟩))) := ⟨fun W hW => by
    obtain ⟨T, L, D, v, h1, h2, _⟩ := HM0.out.below hW HBS.out
    exact (two_cells' h2).1⟩
  rw [← hn]
  clear h hr hH hb hbs hw0 hb0 hn hll hcap
  by_cases hg : r.good
  · have HWV := writeR_good hg
    have HAB := Aside0.mk (Rc.all_bytes hg HB.out)
    have HAL : Aside0 (r.all.length ≤ 140737488355328) := ⟨by rw [Rc.all_len]; have := hg.2.2; omega⟩
    rw [HWV] at HWR
    have HG := Aside0.mk hg
    obtain ⟨ys, hys⟩ : ∃ ys, ys = r.all := ⟨_, rfl⟩
    have HYS := Aside0.mk hys
    rw [← hys] at HAB HWR HAL
    clear HWV hys hg
    go_enter Try.func34, Try.ntmps34
    go_wp2_with fail
    rw [← HW0.out, ← HBB.out]
    obtain ⟨t0, t1, _, _⟩ := two_cells' HH0.out
    go_wp2_with fail
    refine (HWR.out _ HB0.out).mono ?_
    rintro e w1 ⟨v1, rfl, hq1, hb1⟩
    dsimp only at hq1 ⊢
    obtain ⟨A1, c1, rfl, _⟩ := hq1.form
    have HQ1 := Aside0.mk hq1
    have HB1 := Aside0.mk (HB0.out.trans (hb1.mono HB0.out.size))
    have HH1 := Aside0.mk (blk_keep HH0.out hb1)
    have x0 := HQ0.out _ HB1.out
    have HM1 := Aside0.mk (HM0.out.below HB1.out HBS.out)
    have HTA := Aside0.mk (HM1.out.tape (Nat.le_trans HBS.out HB1.out.size) (fun T hT => rappend_calls w1 x u T A1 c1 ys hT HQ1.out.C HAB.out HAL.out))
    clear hq1 hb1 t0 t1
    go_wp2_with fail
    refine HTA.out.mono ?_
    rintro e w2 ⟨rfl, hm2, hk2⟩
    have HNH : Aside0 (¬ H b0) := ⟨fun hh => by have := (HHH.out b0 hh).2; have := HBB.out; omega⟩
    have HH2 := Aside0.mk ((hk2.block b0 (Array.getElem?_eq_some_iff.1 HH1.out).1 HNH.out).trans HH1.out)
    have HR2 : Aside0 (RetM base w1 y x H (u.append ys).1 us (u.append ys).2 (.returned (.int .i64 (u.append ys).2)) w2) := ⟨⟨rfl, hm2, hk2⟩⟩
    clear hm2 hk2 x0 HTA
    by_cases hroom : u.room - u.bs.length < ys.length
    · have HAP : Aside0 (u.append ys = (u, 5)) := ⟨by unfold TS.append; rw [if_pos hroom]⟩
      have HV : Aside0 (addP u us r f = (u, us, 5)) := ⟨by unfold addP; rw [if_pos HG.out, ← HYS.out, if_pos hroom]⟩
      rw [HAP.out] at HR2 ⊢
      clear hroom
      go_wp2_with fail
      go_ret
      rw [HV.out]
      exact HR2.out.front HB1.out
    · have HAP : Aside0 (u.append ys = ({ u with bs := u.bs ++ ys }, 0)) := ⟨by unfold TS.append; rw [if_neg hroom]⟩
      have HV : Aside0 (addP u us r f = ((if f then (TS.mk u.room (u.bs ++ ys) u.forced).force else TS.mk u.room (u.bs ++ ys) u.forced), us ++ [r], 0)) := ⟨by unfold addP; rw [if_pos HG.out, ← HYS.out, if_neg hroom]⟩
      rw [HAP.out] at HR2 ⊢
      dsimp only at HR2 ⊢
      obtain ⟨_, ⟨T, L, D, v, g1, hh, g3, g4, g5, g6, g7⟩, hk2⟩ := HR2.out
      have HK2' := Aside0.mk hk2
      obtain ⟨H2, hH2⟩ : ∃ H2, H2 = fun k => New w1 H k ∧ k < w2.heap.size := ⟨_, rfl⟩
      obtain ⟨vs, e1, e2, e3⟩ := g3
      obtain ⟨Av, cv, rfl⟩ := own_form e1
      obtain ⟨m, hm⟩ : ∃ m, m = us.length := ⟨_, rfl⟩
      have HM := Aside0.mk hm
      have HBS2 : Aside0 (base ≤ w2.heap.size) := ⟨Nat.le_trans HBS.out (Nat.le_trans HB1.out.size hk2.size)⟩
      have HOW : Aside0 (∀ W, Below w2.heap.size w2 W → OwnAt W 0 24 2 (.slice Av m cv) m vs) := ⟨fun W hW => by rw [hm]; exact e1.move (fun k e => hW.block k (e1.block e).2)⟩
      rw [← hm] at hh
      have HS : Aside0 (∀ W, Below w2.heap.size w2 W → W.cell? ⟨y, 1, none⟩ = some (.slice Av m cv) ∧ W.cell? ⟨b0, 0, none⟩ = some (.int .i64 r.1) ∧ W.cell? ⟨b0, 1, none⟩ = some (.slice A n c)) := ⟨fun W hW => by
        obtain ⟨_, y1, _, _⟩ := two_cells' (blk_keep hh hW)
        obtain ⟨z0, z1, _, _⟩ := two_cells' (blk_keep HH2.out hW)
        exact ⟨y1, z0, z1⟩⟩
      have HLE : Aside0 (m ≤ 1000000000) := ⟨by have := HLL.out; omega⟩
      have HBA : Aside0 (Below base w w2) := ⟨(HB1.out.mono HBS.out).trans (below_kept (Below.refl base w1) hk2 (Nat.le_trans HBS.out HB1.out.size) (fun k hk => (HHH.out k hk).1))⟩
      have HCL : Aside0 (∀ Wm w4 A4 c4, Wm.grownBy w4 (Value.slice Av m cv).ownBlock → OwnAt w4 0 24 2 (.slice A4 (m + 1) c4) (m + 1) (vs ++ [.int .i64 r.1, .slice A n c]) → ((Value.slice A4 (m + 1) c4).ownBlock = (Value.slice Av m cv).ownBlock ∨ ∃ b, (Value.slice A4 (m + 1) c4).ownBlock = some b ∧ Wm.heap.size ≤ b) → Below w2.heap.size w2 Wm →
          RetM base w2 y x H2 (TS.mk u.room (u.bs ++ ys) u.forced) (us ++ [r]) 0 (.returned (.int .i64 0)) (w4.setCell ⟨y, 1, none⟩ (.slice A4 (m + 1) c4)) ∧ w4.cell? ⟨y, 1, none⟩ = some (.slice Av m cv) ∧ w4.frozen? ⟨y, 1, none⟩ = false ∧ w4.cell? ⟨y, 0, none⟩ = some (.pointer (some ⟨x, 0, none⟩))) := ⟨fun Wm w4 A4 c4 hg4 ho4 hn4 hm4 => by
        have hyl := (Array.getElem?_eq_some_iff.1 hh).1
        have hyv : some y ≠ (Value.slice Av m cv).ownBlock := fun e => by
          obtain ⟨cur, hc⟩ := own_at_type (HOW.out _ (Below.refl _ _)) e.symm
          rw [hh] at hc
          injection hc with hc
          injection hc with _ hc
          exact absurd hc (by decide)
        obtain ⟨y0, y1, _, y3⟩ := two_cells' ((hg4.block y (Nat.lt_of_lt_of_le hyl hm4.size) hyv).trans (blk_keep hh hm4))
        have g3 : MR base w2 L D (.slice Av m cv) us := ⟨vs, by rw [← hm]; exact HOW.out _ (Below.refl _ _), by rw [hm]; exact e2, e3⟩
        have hmc := mclose (us' := us ++ [r]) (v1 := .slice A4 (m + 1) c4) g1 hh g3 g4 g5 g6 g7 HBS2.out hm4 hg4 (fun k e => hn4.elim (fun h => .inl (by rw [← h]; exact e)) (fun ⟨b, h, hb⟩ => .inr (by rw [h] at e; injection e with e; have := hm4.size; omega))) (fun hk4 => ⟨_, by rw [List.length_append, ← hm]; exact ho4, rows_snoc HN.out (by rw [HN.out]; exact HCAP.out) (fun W' hW' => HRK.out W' (HBA.out.trans hW'.below)) (by have := (HOW.out _ (Below.refl _ _)).1; omega) hk4 e3⟩)
        rw [← hH2] at hmc
        exact ⟨⟨rfl, hmc.1, hmc.2⟩, y1, y3, y0⟩⟩
      obtain ⟨us', hus'⟩ : ∃ us', us' = us ++ [r] := ⟨_, rfl⟩
      rw [← hus'] at HCL HV
      have HHE := Aside0.mk hH2
      obtain ⟨x00, x01, x02⟩ := HS.out _ (Below.refl _ _)
      obtain ⟨x10, x11, x12⟩ := HS.out _ (below_alloc (Below.refl w2.heap.size w2) (.cells #[.int .i64 r.1, .slice A n c] 24))
      clear g1 hh g4 g5 g6 g7 e1 e2 e3 hroom hk2 hH2 hus' hm
      go_wp2_with fail
      go_region_law
        (refine step_mrec rfl (.tmp 30) (.tmp 32) rfl (.slice Av m cv) m w2.heap.size r.1 A n c vs rfl rfl (HOW.out _ (by first | exact below_alloc (Below.refl _ _) _ | exact below_drew (below_alloc (Below.refl _ _) _) | exact below_alloc (below_drew (Below.refl _ _)) _)) (by first | exact heap_alloc_new w2 _ | exact heap_alloc_new w2.drew _) HLE.out ?_; intro A4 c4 w4 ho4 hg4 hn4; have HE4 := HCL.out _ _ _ _ hg4 ho4 hn4 (by first | exact below_alloc (Below.refl _ _) _ | exact below_drew (below_alloc (Below.refl _ _) _) | exact below_alloc (below_drew (Below.refl _ _)) _); obtain ⟨hr4, e0, g0, e00⟩ := HE4; have HR4 := Aside0.mk hr4; clear hr4 ho4 hg4 hn4)
      all_goals
        cases f with
        | false =>
          go_wp2_with fail
          go_ret
          rw [HV.out]
          have hr4 := HR4.out
          rw [HHE.out] at hr4
          exact (RetM.behind HK2'.out hr4).front HB1.out
        | true =>
          have HFC : Aside0 (∀ w4', w4' = w4.setCell ⟨y, 1, none⟩ (.slice A4 (m + 1) c4) → Calls Try.prog 52 #[.pointer (some ⟨x, 0, none⟩)] w4' (fun e W' => e = .returned (.int .i64 0) ∧ RetM base w y x H (TS.mk u.room (u.bs ++ ys) u.forced).force us' 0 (.returned (.int .i64 0)) W')) := ⟨fun w4' e4 => by
            subst e4
            obtain ⟨_, hm4, hk4⟩ := HR4.out
            refine (hm4.tape (Nat.le_trans HBS2.out hk4.size) (fun T hT => rforce_calls _ x _ T hT)).mono ?_
            rintro e W' hr5
            have h6 := RetM.behind hk4 hr5
            rw [HHE.out] at h6
            have h7 := (RetM.behind HK2'.out h6).front HB1.out
            exact ⟨hr5.1, rfl, h7.2⟩⟩
          have HFC := Aside0.mk (HFC.out _ rfl)
          go_wp2_with fail
          refine HFC.out.mono ?_
          rintro e w5 ⟨rfl, hr5⟩
          have HR5 := Aside0.mk hr5
          clear hr5
          go_wp2_with fail
          go_ret
          rw [HV.out]
          exact HR5.out
  · have HNW := writeR_not hg
    have HV : Aside0 (addP u us r f = (u, us, (writeR r).2)) := ⟨by unfold addP; rw [if_neg hg]⟩
    obtain ⟨er, her⟩ : ∃ er, er = (writeR r).2 := ⟨_, rfl⟩
    have hne : (er != 0) = true := by simpa [her] using HNW.2
    have HER := Aside0.mk her
    have HNV := Aside0.mk HNW.1
    clear hg her HNW
    go_enter Try.func34, Try.ntmps34
    go_wp2_with fail
    rw [← HW0.out, ← HBB.out]
    obtain ⟨t0, t1, _, _⟩ := two_cells' HH0.out
    go_wp2_with fail
    refine (HWR.out _ HB0.out).mono ?_
    rintro e w1 ⟨v1, rfl, hq1, hb1⟩
    rw [← HER.out]
    rw [HNV.out] at hq1
    obtain ⟨A1, c1, rfl, _⟩ := hq1.form
    have HB1 := Aside0.mk (HB0.out.trans (hb1.mono HB0.out.size))
    clear hq1 hb1 t0 t1
    go_wp2_with fail
    go_ret
    rw [HV.out, ← HER.out]
    exact HEND.out _ _ HB1.out
end Go.Proofs.Ytcnohnieoecpdaa.Oct
