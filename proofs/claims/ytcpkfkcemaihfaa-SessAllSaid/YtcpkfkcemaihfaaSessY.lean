import Derived.Test.YtcpkfkcemaihfaaSessX
/- send. -/
namespace Go.Proofs.Ytcpkfkcemaihfaa.M
theorem Ps.send_zero (st : Ps) (i j : Nat) : st.send i j 0 = st := by
  obtain ⟨e, tx, mail⟩ := st
  unfold Ps.send
  congr 1
  funext k
  by_cases h : k = j
  · rw [h, upd_same]; simp
  · rw [upd_ne _ _ h]
theorem Ps.send_succ {st : Ps} {i j k : Nat} {f : FR} (hf : (st.e i).frames[k]? = some f) : st.send i j (k + 1) = { (st.send i j k) with mail := upd (st.send i j k).mail j ((st.send i j k).mail j ++ [f]) } := by
  unfold Ps.send
  congr 1
  funext q
  dsimp only
  by_cases h : q = j
  · rw [h, upd_same, upd_same, upd_same, List.take_add_one, hf, List.append_assoc]
    rfl
  · rw [upd_ne _ _ h, upd_ne _ _ h, upd_ne _ _ h]
end Go.Proofs.Ytcpkfkcemaihfaa.M
namespace Go.Proofs.Ytcpkfkcemaihfaa.Oct
open Go.RowKit Go.Proofs.YtcpkfkcemaihfaaW.PrintWords Go.Proofs.Ytcpkfkcemaihfaa.M
set_option linter.unusedVariables false
set_option linter.unusedSimpArgs false
theorem FW.flab {W : World} {base : Nat} {v : Value} {ls : List FR} (h : FW W base v ls) {o : Nat → Nat} (ho : ∀ k, base ≤ k → o k = 9) : FLab W o 9 v ls := by
  obtain ⟨vs, h1, h2⟩ := h
  refine ⟨vs, h1.lower (Nat.zero_le _), fun k e => ho k (h1.block e).1, fun j f hj => ?_⟩
  obtain ⟨e1, e2, e3, u, e4, hq⟩ := h2 j f hj
  exact ⟨e1, e2, e3, u, e4, hq.lower (Nat.zero_le _), fun k e => ho k (hq.block e).1⟩
theorem flab_snoc {W : World} {o : Nat → Nat} {v : Value} {vs : List Value} {ls : List FR} {f : FR} {A : Option Addr} {d : Nat} (h1 : OwnAt W 0 42 4 v ls.length vs)
    (h3 : ∀ (j : Nat) (f : FR), ls[j]? = some f → vs[4 * j]? = some (.int .u32 f.s) ∧ vs[4 * j + 1]? = some (.int .i64 f.q) ∧ vs[4 * j + 2]? = some (.int .i64 f.k) ∧ ∃ u, vs[4 * j + 3]? = some u ∧ QB W 0 u f.d ∧ ∀ k, u.ownBlock = some k → o k = 9)
    {u : Nat} (hq : QB W 0 (.slice A u d) f.d) (h9 : ∀ k, (Value.slice A u d).ownBlock = some k → o k = 9) :
    ∀ (j : Nat) (g : FR), (ls ++ [f])[j]? = some g → (vs ++ [.int .u32 f.s, .int .i64 f.q, .int .i64 f.k, .slice A u d])[4 * j]? = some (.int .u32 g.s) ∧ (vs ++ [.int .u32 f.s, .int .i64 f.q, .int .i64 f.k, .slice A u d])[4 * j + 1]? = some (.int .i64 g.q) ∧ (vs ++ [.int .u32 f.s, .int .i64 f.q, .int .i64 f.k, .slice A u d])[4 * j + 2]? = some (.int .i64 g.k) ∧ ∃ v, (vs ++ [.int .u32 f.s, .int .i64 f.q, .int .i64 f.k, .slice A u d])[4 * j + 3]? = some v ∧ QB W 0 v g.d ∧ ∀ k, v.ownBlock = some k → o k = 9 := by
  have hl := h1.1
  intro j g hj
  rcases Nat.lt_or_ge j ls.length with h | h
  · rw [List.getElem?_append_left h] at hj
    obtain ⟨f1, f2, f3, u', f4, f5⟩ := h3 j g hj
    rw [List.getElem?_append_left (by omega), List.getElem?_append_left (by omega), List.getElem?_append_left (by omega), List.getElem?_append_left (by omega)]
    exact ⟨f1, f2, f3, u', f4, f5⟩
  · have hjl : j = ls.length := by have := (List.getElem?_eq_some_iff.1 hj).1; simp at this; omega
    subst hjl
    rw [List.getElem?_append_right (Nat.le_refl _), Nat.sub_self] at hj
    obtain rfl : g = f := by simpa using hj.symm
    rw [List.getElem?_append_right (by omega), List.getElem?_append_right (by omega), List.getElem?_append_right (by omega), List.getElem?_append_right (by omega), show 4 * ls.length - vs.length = 0 by omega, show 4 * ls.length + 1 - vs.length = 1 by omega, show 4 * ls.length + 2 - vs.length = 2 by omega, show 4 * ls.length + 3 - vs.length = 3 by omega]
    exact ⟨rfl, rfl, rfl, _, rfl, hq, h9⟩
/-- one step of a region that draws: append(v, f), f in a block of its own -/
theorem step_fr {ops : Array Oper} {o : Oper} {a : Act} {K : Act → World → Prop} {Q : Exit → Act → World → Prop} {E : Prop} {W : World} (hgd : o.guard = none) (s x : Operand)
    (ho : o.op = .call { callee := .builtin .append, args := #[s, x], argTypes := #[32, 32] })
    (v : Value) (vs : List Value) (n : Nat) (y0 y1 y2 y3 : Value) (g : Nat) (hs : a.eval s = v) (hx : a.eval x = .slice (some ⟨g, 0, none⟩) 1 1) (HO : OwnAt W 0 42 4 v n vs) (hb : W.heap[g]? = some (.cells #[y0, y1, y2, y3] 42 (0, 0))) (h1 : ∀ u ∈ [y0, y1, y2, y3], u.oneCell' = true) (hl : n ≤ 1000000)
    (h : ∀ v1 w1, OwnAt w1 0 42 4 v1 (n + 1) (vs ++ [y0, y1, y2, y3]) → W.grownBy w1 v.ownBlock → (v1.ownBlock = v.ownBlock ∨ ∃ b, v1.ownBlock = some b ∧ W.heap.size ≤ b) → K (a.put o.dst v1) w1) :
    if Region.wanted o (yielded ops a.tmps) = true then Oper.wp Try.prog o a W K Q else E := by
  obtain ⟨i0, hi0, hz0, hz1, hz2⟩ := info_parts info_frame
  exact step_append_at W hgd s x 32 ho 0 42 i0 _ 4 48 Try.underlying32 hi0 hz0 hz1 hz2 rfl (by decide) v n vs hs HO (some ⟨g, 0, none⟩) 1 1 [y0, y1, y2, y3] hx rfl (fun _ => ⟨_, rfl, four_news hb⟩) h1 (by simp only [maxLen]; omega) (by omega) (Nat.zero_le _) h
set_option maxRecDepth 20000 in
set_option maxHeartbeats 8000000 in
theorem psend_calls (w W : World) (p i j : Nat) (o : Nat → Nat) (st : Ps) (h : PA w W p o st) (hij : i = 0 ∧ j = 1 ∨ i = 1 ∧ j = 0) :
    Calls Try.prog 30 #[.pointer (some ⟨p, 0, none⟩), .int .i64 i] W (fun e W' => e = .returned (.tuple #[]) ∧ ∃ m o', PA w W' p o' (st.send i j m) ∧ Stays o W W' o') := by
  obtain ⟨a, vt, vm, h⟩ := h
  have HP := Aside0.mk h
  obtain ⟨n, hn⟩ : ∃ n, n = (st.e i).frames.length := ⟨_, rfl⟩
  have HN := Aside0.mk hn
  have hn16 : n ≤ 16 := by
    have := (Es.frames_bound (h.ends i (by omega)).is.2.2).2.2.2
    omega
  clear h hn
  have hi : i < 2 := by omega
  rcases hij with ⟨rfl, rfl⟩ | ⟨rfl, rfl⟩
  · clear hi
    have HFC : Aside0 (∀ W1, Below W.heap.size W W1 → Calls Try.prog 14 #[.pointer (some ⟨a 0, 0, none⟩)] W1 (fun e W2 => ∃ A c, e = .returned (.slice A n c) ∧ FLab W2 (rl W o 9) 9 (.slice A n c) (st.e 0).frames ∧ Below W.heap.size W W2)) := ⟨fun W1 hW1 => by
      refine (eframes_calls W1 (a 0) (st.e 0) _ ((HP.out.under hW1).ends 0 (by decide))).mono ?_
      rintro e W2 ⟨A, c, rfl, hfw, hb⟩
      rw [← HN.out] at hfw ⊢
      exact ⟨A, c, rfl, hfw.flab (fun k hk => rl_new (Nat.le_trans hW1.size hk)), hW1.trans (hb.mono hW1.size)⟩⟩
    have hx3 := HP.out.fields.1 0 (by decide)
    have g0 : IntKind.i64.wrap (0 : Int) = 0 := by decide
    have g1 : IntKind.i64.wrap (1 : Int) = 1 := by decide
    go_enter Try.func30, Try.ntmps30
    go_wp2_with fail
    refine (HFC.out _ (Below.refl _ _)).mono ?_
    rintro e W2 ⟨A, c, rfl, hfl, hb2⟩
    have HP2 : Aside0 (PA w W2 p (rl W o 9) (st.send 0 1 0)) := ⟨by
      rw [Ps.send_zero]
      exact ⟨a, vt, vm, HP.out.below' hb2 (fun k hk => rl_old hk) (rl_base HP.out.base HP.out.below.size)⟩⟩
    have HS2 : Aside0 (Stays o W W2 (rl W o 9)) := ⟨Stays.of_below hb2 (fun k hk => rl_old hk)⟩
    have HF2 := Aside0.mk hfl
    obtain ⟨o1, ho1⟩ : ∃ o1, o1 = rl W o 9 := ⟨_, rfl⟩
    rw [← ho1] at HP2 HS2 HF2
    clear hfl hb2 ho1 hx3
    go_wp2_with fail
    go_loopw [5] (fun v5 wr => ∃ (k : Nat) (o2 : Nat → Nat), k ≤ n ∧ v5 = .int .i64 k ∧ Aside0 (PA w wr p o2 (st.send 0 1 k)) ∧ Aside0 (Stays o W wr o2) ∧ Aside0 (FLab wr o2 9 (.slice A n c) (st.e 0).frames)) (fun v _ => n - (intOf v).toNat)
    case atStart => exact ⟨0, o1, by omega, rfl, HP2, HS2, HF2⟩
    case round =>
      obtain ⟨wz, hwz⟩ : ∃ wz, wz = wr := ⟨_, rfl⟩
      subst hwz
      obtain ⟨k, o2, hk, rfl, HPR, HSR, HFR⟩ := hrel
      obtain ⟨a2, vt2, vm2, hpv⟩ := HPR.out
      have HPV := Aside0.mk hpv
      obtain ⟨vs, hv1, hv2, hv3⟩ := hpv.mails 1 (by decide)
      obtain ⟨A4, d4, e4, hd4, hd5⟩ := (hpv.mails 1 (by decide)).form
      obtain ⟨ml, hml⟩ : ∃ ml, ml = ((st.send 0 1 k).mail 1).length := ⟨_, rfl⟩
      rw [← hml] at e4 hd4 hv1
      have hx4 := (hpv.fields.2.2 1 (by decide)).1
      rw [e4] at hx4
      have hx4 : wz.cell? ⟨p, 7, none⟩ = some (.slice A4 ml d4) := hx4
      have hml63 : ml ≤ 9223372036854775807 := by simp only [maxLen] at hd5; omega
      have HV1 := Aside0.mk hv1
      have HV2 := Aside0.mk hv2
      have HV3 := Aside0.mk hv3
      have HML := Aside0.mk hml
      have HE4 := Aside0.mk e4
      clear hpv hv1 hv2 hv3 e4 hd4 hd5 hml
      have hcs : (¬ (k : Int) < (n : Int)) ∨ ((k : Int) < (n : Int) ∧ ¬ (ml : Int) < 100) ∨ ((k : Int) < (n : Int) ∧ (ml : Int) < 100) := by omega
      rcases hcs with h1 | ⟨h1, h2⟩ | ⟨h1, h2⟩
      · go_wp2_with fail
        (try simp only [Exit.inBlock, Exit.then])
        first | refine bodyPost_end (results_none rfl _ _ _) rfl ?_ | refine bodyPost_ret (results_none rfl _ _ _) rfl ?_
        exact ⟨rfl, k, _, HPR.out, HSR.out⟩
      · go_wp2_with fail
        (try simp only [Exit.inBlock, Exit.then])
        first | refine bodyPost_end (results_none rfl _ _ _) rfl ?_ | refine bodyPost_ret (results_none rfl _ _ _) rfl ?_
        exact ⟨rfl, k, _, HPR.out, HSR.out⟩
      · have hkn : k < (st.e 0).frames.length := by rw [← HN.out]; omega
        obtain ⟨ad, f, Au, du, rfl, hf, k0, k1, k2, k3, hq, hq9⟩ := HFR.out.get hkn
        have HF := Aside0.mk hf
        have HQ := Aside0.mk hq
        have HQ9 := Aside0.mk hq9
        obtain ⟨u, hu⟩ : ∃ u, u = f.d.length := ⟨_, rfl⟩
        have HU := Aside0.mk hu
        rw [← hu] at k3
        have hml2 : ml ≤ 1000000 := by omega
        have HLE := Aside0.mk hml2
        obtain ⟨BX, hBX⟩ : ∃ BX, BX = Obj.cells #[.int .u32 f.s, .int .i64 f.q, .int .i64 f.k, .slice Au u du] 42 := ⟨_, rfl⟩
        have hkeep : ∀ {ad : Addr} {v : Value}, wz.cell? ad = some v → (wz.drew.cell? ad = some v ∧ (wz.alloc BX).cell? ad = some v ∧ (wz.drew.alloc BX).cell? ad = some v ∧ (wz.alloc BX).drew.cell? ad = some v) := fun {ad v} h =>
          have hl := World.block_lt_of_cell? _ _ h
          ⟨((below_drew (Below.refl _ _)).cell hl).trans h, ((below_alloc (Below.refl _ _) _).cell hl).trans h, ((below_alloc (below_drew (Below.refl _ _)) _).cell hl).trans h, ((below_drew (below_alloc (Below.refl _ _) _)).cell hl).trans h⟩
        have q0 := hkeep k0
        have q1 := hkeep k1
        have q2 := hkeep k2
        have q3 := hkeep k3
        have q4 := hkeep hx4
        rw [hBX] at q0 q1 q2 q3 q4
        have HPB : Aside0 (∀ w4, wz.grownBy w4 (Value.slice A4 ml d4).ownBlock → w4.cell? ⟨p, 7, none⟩ = some (.slice A4 ml d4) ∧ w4.frozen? ⟨p, 7, none⟩ = false) := ⟨fun w4 hg => by
          have hpb : w4.heap[p]? = wz.heap[p]? := hg.block p (Array.getElem?_eq_some_iff.1 HPV.out.cells).1 (fun e => by
            have h1 := HPV.out.op
            rw [← HE4.out] at e
            have := HV2.out p e.symm
            omega)
          have h1 := HPV.out.fields.2.2 1 (by decide)
          rw [HE4.out] at h1
          have hcell : ∀ j, w4.cell? ⟨p, j, none⟩ = wz.cell? ⟨p, j, none⟩ := fun j => by unfold World.cell?; rw [hpb]
          have hfr : ∀ j, w4.frozen? ⟨p, j, none⟩ = wz.frozen? ⟨p, j, none⟩ := fun j => by unfold World.frozen?; rw [hpb]
          exact ⟨(hcell _).trans h1.1, (hfr _).trans h1.2⟩⟩
        have HVW : Aside0 (∀ W3, Below wz.heap.size wz W3 → OwnAt W3 0 42 4 (.slice A4 ml d4) ml vs) := ⟨fun W3 hW => by
          have := HV1.out.move (fun k e => hW.block k (HV1.out.block e).2)
          rw [HE4.out] at this
          exact this⟩
        clear hf hq hq9 hu hkn hBX hkeep hml2
        obtain ⟨q0a, q0b, q0c, q0d⟩ := q0
        obtain ⟨q1a, q1b, q1c, q1d⟩ := q1
        obtain ⟨q2a, q2b, q2c, q2d⟩ := q2
        obtain ⟨q3a, q3b, q3c, q3d⟩ := q3
        obtain ⟨q4a, q4b, q4c, q4d⟩ := q4
        go_wp2_with fail
        go_region_law (refine step_fr rfl (.tmp 39) (.tmp 44) rfl (.slice A4 ml d4) vs ml (.int .u32 f.s) (.int .i64 f.q) (.int .i64 f.k) (.slice Au u du) wz.heap.size rfl rfl (HVW.out _ (by first | exact below_alloc (Below.refl _ _) _ | exact below_drew (below_alloc (Below.refl _ _) _) | exact below_alloc (below_drew (Below.refl _ _)) _)) (by first | exact heap_alloc_new wz _ | exact heap_alloc_new wz.drew _) (by simp [Value.oneCell']) HLE.out ?_; intro v1 w4 ho1 hg1 hn1; obtain ⟨A5, d5, rfl, _⟩ := own_form ho1; have HG0 : Aside0 (wz.grownBy w4 (Value.slice A4 ml d4).ownBlock) := ⟨by first | exact grown_below (below_alloc (Below.refl _ _) _) hg1 | exact grown_below (below_drew (below_alloc (Below.refl _ _) _)) hg1 | exact grown_below (below_alloc (below_drew (Below.refl _ _)) _) hg1⟩; obtain ⟨e0, f0⟩ := HPB.out _ HG0.out; have HO1 := Aside0.mk ho1; have HN1 : Aside0 ((Value.slice A5 (ml + 1) d5).ownBlock = (Value.slice A4 ml d4).ownBlock ∨ ∃ b, (Value.slice A5 (ml + 1) d5).ownBlock = some b ∧ wz.heap.size ≤ b) := ⟨hn1.imp id (fun ⟨b, e, h⟩ => ⟨b, e, Nat.le_trans (by simp) h⟩)⟩; clear ho1 hg1 hn1)
        all_goals
          have ho1 := HO1.out
          have hn1 := HN1.out
          have hg0 := HG0.out
          rw [← HE4.out] at hn1 hg0
          have hfin : PV w (w4.setCell ⟨p, 7, none⟩ (.slice A5 (ml + 1) d5)) p (rl wz o2 (7 + 1)) (st.send 0 1 (k + 1)) a2 vt2 (upd vm2 1 (.slice A5 (ml + 1) d5)) := by
            rw [Ps.send_succ HF.out]
            refine HPV.out.frames (i := 1) (ls := (st.send 0 1 k).mail 1 ++ [f]) (vs := vs ++ [.int .u32 f.s, .int .i64 f.q, .int .i64 f.k, .slice Au u du]) (by decide) (Below.refl _ _) (by rw [List.length_append, ← HML.out]; exact ho1) hg0 hn1 ?_
            have h1 := HV1.out
            rw [HML.out] at h1
            exact flab_snoc h1 HV3.out (by rw [HU.out]; exact HQ.out) (by rw [HU.out]; exact HQ9.out)
          have hst : Stays o2 wz (w4.setCell ⟨p, 7, none⟩ (.slice A5 (ml + 1) d5)) (rl wz o2 (7 + 1)) := ⟨by simp only [World.setCell, Array.size_modify]; exact hg0.size, fun k hk => rl_old hk, fun k hk e => row_old (Below.refl _ _) hg0 HV2.out HPV.out.op hk (by omega) (by omega)⟩
          have HPX : Aside0 (PA w (w4.setCell ⟨p, 7, none⟩ (.slice A5 (ml + 1) d5)) p (rl wz o2 (7 + 1)) (st.send 0 1 (k + 1))) := ⟨⟨_, _, _, hfin⟩⟩
          have HSX := Aside0.mk (HSR.out.trans hst)
          have HFX := Aside0.mk (HFR.out.stays hst)
          clear hfin hst ho1 hn1 hg0
          go_wp2_with fail
          exact ⟨⟨k + 1, _, by omega, by go_num, HPX, HSX, HFX⟩, by simp [intOf]; omega⟩
  · clear hi
    have HFC : Aside0 (∀ W1, Below W.heap.size W W1 → Calls Try.prog 14 #[.pointer (some ⟨a 1, 0, none⟩)] W1 (fun e W2 => ∃ A c, e = .returned (.slice A n c) ∧ FLab W2 (rl W o 9) 9 (.slice A n c) (st.e 1).frames ∧ Below W.heap.size W W2)) := ⟨fun W1 hW1 => by
      refine (eframes_calls W1 (a 1) (st.e 1) _ ((HP.out.under hW1).ends 1 (by decide))).mono ?_
      rintro e W2 ⟨A, c, rfl, hfw, hb⟩
      rw [← HN.out] at hfw ⊢
      exact ⟨A, c, rfl, hfw.flab (fun k hk => rl_new (Nat.le_trans hW1.size hk)), hW1.trans (hb.mono hW1.size)⟩⟩
    have hx3 := HP.out.fields.1 1 (by decide)
    have g0 : IntKind.i64.wrap (0 : Int) = 0 := by decide
    have g1 : IntKind.i64.wrap (1 : Int) = 1 := by decide
    go_enter Try.func30, Try.ntmps30
    go_wp2_with fail
    refine (HFC.out _ (Below.refl _ _)).mono ?_
    rintro e W2 ⟨A, c, rfl, hfl, hb2⟩
    have HP2 : Aside0 (PA w W2 p (rl W o 9) (st.send 1 0 0)) := ⟨by
      rw [Ps.send_zero]
      exact ⟨a, vt, vm, HP.out.below' hb2 (fun k hk => rl_old hk) (rl_base HP.out.base HP.out.below.size)⟩⟩
    have HS2 : Aside0 (Stays o W W2 (rl W o 9)) := ⟨Stays.of_below hb2 (fun k hk => rl_old hk)⟩
    have HF2 := Aside0.mk hfl
    obtain ⟨o1, ho1⟩ : ∃ o1, o1 = rl W o 9 := ⟨_, rfl⟩
    rw [← ho1] at HP2 HS2 HF2
    clear hfl hb2 ho1 hx3
    go_wp2_with fail
    go_loopw [5] (fun v5 wr => ∃ (k : Nat) (o2 : Nat → Nat), k ≤ n ∧ v5 = .int .i64 k ∧ Aside0 (PA w wr p o2 (st.send 1 0 k)) ∧ Aside0 (Stays o W wr o2) ∧ Aside0 (FLab wr o2 9 (.slice A n c) (st.e 1).frames)) (fun v _ => n - (intOf v).toNat)
    case atStart => exact ⟨0, o1, by omega, rfl, HP2, HS2, HF2⟩
    case round =>
      obtain ⟨wz, hwz⟩ : ∃ wz, wz = wr := ⟨_, rfl⟩
      subst hwz
      obtain ⟨k, o2, hk, rfl, HPR, HSR, HFR⟩ := hrel
      obtain ⟨a2, vt2, vm2, hpv⟩ := HPR.out
      have HPV := Aside0.mk hpv
      obtain ⟨vs, hv1, hv2, hv3⟩ := hpv.mails 0 (by decide)
      obtain ⟨A4, d4, e4, hd4, hd5⟩ := (hpv.mails 0 (by decide)).form
      obtain ⟨ml, hml⟩ : ∃ ml, ml = ((st.send 1 0 k).mail 0).length := ⟨_, rfl⟩
      rw [← hml] at e4 hd4 hv1
      have hx4 := (hpv.fields.2.2 0 (by decide)).1
      rw [e4] at hx4
      have hx4 : wz.cell? ⟨p, 6, none⟩ = some (.slice A4 ml d4) := hx4
      have hml63 : ml ≤ 9223372036854775807 := by simp only [maxLen] at hd5; omega
      have HV1 := Aside0.mk hv1
      have HV2 := Aside0.mk hv2
      have HV3 := Aside0.mk hv3
      have HML := Aside0.mk hml
      have HE4 := Aside0.mk e4
      clear hpv hv1 hv2 hv3 e4 hd4 hd5 hml
      have hcs : (¬ (k : Int) < (n : Int)) ∨ ((k : Int) < (n : Int) ∧ ¬ (ml : Int) < 100) ∨ ((k : Int) < (n : Int) ∧ (ml : Int) < 100) := by omega
      rcases hcs with h1 | ⟨h1, h2⟩ | ⟨h1, h2⟩
      · go_wp2_with fail
        (try simp only [Exit.inBlock, Exit.then])
        first | refine bodyPost_end (results_none rfl _ _ _) rfl ?_ | refine bodyPost_ret (results_none rfl _ _ _) rfl ?_
        exact ⟨rfl, k, _, HPR.out, HSR.out⟩
      · go_wp2_with fail
        (try simp only [Exit.inBlock, Exit.then])
        first | refine bodyPost_end (results_none rfl _ _ _) rfl ?_ | refine bodyPost_ret (results_none rfl _ _ _) rfl ?_
        exact ⟨rfl, k, _, HPR.out, HSR.out⟩
      · have hkn : k < (st.e 1).frames.length := by rw [← HN.out]; omega
        obtain ⟨ad, f, Au, du, rfl, hf, k0, k1, k2, k3, hq, hq9⟩ := HFR.out.get hkn
        have HF := Aside0.mk hf
        have HQ := Aside0.mk hq
        have HQ9 := Aside0.mk hq9
        obtain ⟨u, hu⟩ : ∃ u, u = f.d.length := ⟨_, rfl⟩
        have HU := Aside0.mk hu
        rw [← hu] at k3
        have hml2 : ml ≤ 1000000 := by omega
        have HLE := Aside0.mk hml2
        obtain ⟨BX, hBX⟩ : ∃ BX, BX = Obj.cells #[.int .u32 f.s, .int .i64 f.q, .int .i64 f.k, .slice Au u du] 42 := ⟨_, rfl⟩
        have hkeep : ∀ {ad : Addr} {v : Value}, wz.cell? ad = some v → (wz.drew.cell? ad = some v ∧ (wz.alloc BX).cell? ad = some v ∧ (wz.drew.alloc BX).cell? ad = some v ∧ (wz.alloc BX).drew.cell? ad = some v) := fun {ad v} h =>
          have hl := World.block_lt_of_cell? _ _ h
          ⟨((below_drew (Below.refl _ _)).cell hl).trans h, ((below_alloc (Below.refl _ _) _).cell hl).trans h, ((below_alloc (below_drew (Below.refl _ _)) _).cell hl).trans h, ((below_drew (below_alloc (Below.refl _ _) _)).cell hl).trans h⟩
        have q0 := hkeep k0
        have q1 := hkeep k1
        have q2 := hkeep k2
        have q3 := hkeep k3
        have q4 := hkeep hx4
        rw [hBX] at q0 q1 q2 q3 q4
        have HPB : Aside0 (∀ w4, wz.grownBy w4 (Value.slice A4 ml d4).ownBlock → w4.cell? ⟨p, 6, none⟩ = some (.slice A4 ml d4) ∧ w4.frozen? ⟨p, 6, none⟩ = false) := ⟨fun w4 hg => by
          have hpb : w4.heap[p]? = wz.heap[p]? := hg.block p (Array.getElem?_eq_some_iff.1 HPV.out.cells).1 (fun e => by
            have h1 := HPV.out.op
            rw [← HE4.out] at e
            have := HV2.out p e.symm
            omega)
          have h1 := HPV.out.fields.2.2 0 (by decide)
          rw [HE4.out] at h1
          have hcell : ∀ j, w4.cell? ⟨p, j, none⟩ = wz.cell? ⟨p, j, none⟩ := fun j => by unfold World.cell?; rw [hpb]
          have hfr : ∀ j, w4.frozen? ⟨p, j, none⟩ = wz.frozen? ⟨p, j, none⟩ := fun j => by unfold World.frozen?; rw [hpb]
          exact ⟨(hcell _).trans h1.1, (hfr _).trans h1.2⟩⟩
        have HVW : Aside0 (∀ W3, Below wz.heap.size wz W3 → OwnAt W3 0 42 4 (.slice A4 ml d4) ml vs) := ⟨fun W3 hW => by
          have := HV1.out.move (fun k e => hW.block k (HV1.out.block e).2)
          rw [HE4.out] at this
          exact this⟩
        clear hf hq hq9 hu hkn hBX hkeep hml2
        obtain ⟨q0a, q0b, q0c, q0d⟩ := q0
        obtain ⟨q1a, q1b, q1c, q1d⟩ := q1
        obtain ⟨q2a, q2b, q2c, q2d⟩ := q2
        obtain ⟨q3a, q3b, q3c, q3d⟩ := q3
        obtain ⟨q4a, q4b, q4c, q4d⟩ := q4
        go_wp2_with fail
        go_region_law (refine step_fr rfl (.tmp 39) (.tmp 44) rfl (.slice A4 ml d4) vs ml (.int .u32 f.s) (.int .i64 f.q) (.int .i64 f.k) (.slice Au u du) wz.heap.size rfl rfl (HVW.out _ (by first | exact below_alloc (Below.refl _ _) _ | exact below_drew (below_alloc (Below.refl _ _) _) | exact below_alloc (below_drew (Below.refl _ _)) _)) (by first | exact heap_alloc_new wz _ | exact heap_alloc_new wz.drew _) (by simp [Value.oneCell']) HLE.out ?_; intro v1 w4 ho1 hg1 hn1; obtain ⟨A5, d5, rfl, _⟩ := own_form ho1; have HG0 : Aside0 (wz.grownBy w4 (Value.slice A4 ml d4).ownBlock) := ⟨by first | exact grown_below (below_alloc (Below.refl _ _) _) hg1 | exact grown_below (below_drew (below_alloc (Below.refl _ _) _)) hg1 | exact grown_below (below_alloc (below_drew (Below.refl _ _)) _) hg1⟩; obtain ⟨e0, f0⟩ := HPB.out _ HG0.out; have HO1 := Aside0.mk ho1; have HN1 : Aside0 ((Value.slice A5 (ml + 1) d5).ownBlock = (Value.slice A4 ml d4).ownBlock ∨ ∃ b, (Value.slice A5 (ml + 1) d5).ownBlock = some b ∧ wz.heap.size ≤ b) := ⟨hn1.imp id (fun ⟨b, e, h⟩ => ⟨b, e, Nat.le_trans (by simp) h⟩)⟩; clear ho1 hg1 hn1)
        all_goals
          have ho1 := HO1.out
          have hn1 := HN1.out
          have hg0 := HG0.out
          rw [← HE4.out] at hn1 hg0
          have hfin : PV w (w4.setCell ⟨p, 6, none⟩ (.slice A5 (ml + 1) d5)) p (rl wz o2 (7 + 0)) (st.send 1 0 (k + 1)) a2 vt2 (upd vm2 0 (.slice A5 (ml + 1) d5)) := by
            rw [Ps.send_succ HF.out]
            refine HPV.out.frames (i := 0) (ls := (st.send 1 0 k).mail 0 ++ [f]) (vs := vs ++ [.int .u32 f.s, .int .i64 f.q, .int .i64 f.k, .slice Au u du]) (by decide) (Below.refl _ _) (by rw [List.length_append, ← HML.out]; exact ho1) hg0 hn1 ?_
            have h1 := HV1.out
            rw [HML.out] at h1
            exact flab_snoc h1 HV3.out (by rw [HU.out]; exact HQ.out) (by rw [HU.out]; exact HQ9.out)
          have hst : Stays o2 wz (w4.setCell ⟨p, 6, none⟩ (.slice A5 (ml + 1) d5)) (rl wz o2 (7 + 0)) := ⟨by simp only [World.setCell, Array.size_modify]; exact hg0.size, fun k hk => rl_old hk, fun k hk e => row_old (Below.refl _ _) hg0 HV2.out HPV.out.op hk (by omega) (by omega)⟩
          have HPX : Aside0 (PA w (w4.setCell ⟨p, 6, none⟩ (.slice A5 (ml + 1) d5)) p (rl wz o2 (7 + 0)) (st.send 1 0 (k + 1))) := ⟨⟨_, _, _, hfin⟩⟩
          have HSX := Aside0.mk (HSR.out.trans hst)
          have HFX := Aside0.mk (HFR.out.stays hst)
          clear hfin hst ho1 hn1 hg0
          go_wp2_with fail
          exact ⟨⟨k + 1, _, by omega, by go_num, HPX, HSX, HFX⟩, by simp [intOf]; omega⟩
end Go.Proofs.Ytcpkfkcemaihfaa.Oct
