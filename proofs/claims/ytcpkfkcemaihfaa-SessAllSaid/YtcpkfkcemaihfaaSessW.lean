import Derived.Test.YtcpkfkcemaihfaaSessV
/- A frame comes to an end of the pair. -/
namespace Go.Proofs.Ytcpkfkcemaihfaa.Oct
open Go.RowKit Go.Proofs.YtcpkfkcemaihfaaW.PrintWords Go.Proofs.Ytcpkfkcemaihfaa.M
set_option linter.unusedVariables false
set_option linter.unusedSimpArgs false
/-- labels stay, and what is labelled 9 is as it was -/
def Stays (o : Nat → Nat) (W W' : World) (o' : Nat → Nat) : Prop := W.heap.size ≤ W'.heap.size ∧ (∀ k, k < W.heap.size → o' k = o k) ∧ ∀ k, k < W.heap.size → o k = 9 → W'.heap[k]? = W.heap[k]?
theorem Stays.refl (o : Nat → Nat) (W : World) : Stays o W W o := ⟨Nat.le_refl _, fun _ _ => rfl, fun _ _ _ => rfl⟩
theorem Stays.trans {o o1 o2 : Nat → Nat} {W W1 W2 : World} (h : Stays o W W1 o1) (h2 : Stays o1 W1 W2 o2) : Stays o W W2 o2 :=
  ⟨Nat.le_trans h.1 h2.1, fun k hk => (h2.2.1 k (Nat.lt_of_lt_of_le hk h.1)).trans (h.2.1 k hk), fun k hk e => (h2.2.2 k (Nat.lt_of_lt_of_le hk h.1) ((h.2.1 k hk).trans e)).trans (h.2.2 k hk e)⟩
theorem Stays.of_below {o o' : Nat → Nat} {W W' : World} (hb : Below W.heap.size W W') (ho : ∀ k, k < W.heap.size → o' k = o k) : Stays o W W' o' := ⟨hb.size, ho, fun k hk _ => hb.block k hk⟩
theorem FLab.stays {o o' : Nat → Nat} {W W' : World} {v : Value} {ls : List FR} (h : FLab W o 9 v ls) (hs : Stays o W W' o') : FLab W' o' 9 v ls := h.step hs.2.1 (fun k hk e => hs.2.2 k hk (e.elim id id))
theorem DT.stays {w W W' : World} {o o' : Nat → Nat} {A : Option Addr} {c : Nat} {l : List Int} (h : DT w W o A c l) (hs : Stays o W W' o') : DT w W' o' A c l := h.step hs.2.1 hs.2.2
set_option maxRecDepth 20000 in
set_option maxHeartbeats 8000000 in
theorem pcomes_calls (w W : World) (p i : Nat) (o : Nat → Nat) (st : Ps) (f : FR) (B : Option Addr) (c : Nat) (h : PA w W p o st) (hi : i < 2) (hok : f.ok) (hfl : f.d.length ≤ 256) (hq : QB W 0 (.slice B f.d.length c) f.d) (hqo : ∀ k, (Value.slice B f.d.length c).ownBlock = some k → o k = 9) (hon : ((st.e i).on f).2.2 = 0) (hlen : (st.tx (2 + i)).length ≤ 100000) :
    Calls Try.prog 25 #[.pointer (some ⟨p, 0, none⟩), .int .i64 i, .agg #[.int .u32 f.s, .int .i64 f.q, .int .i64 f.k, .slice B f.d.length c]] W (fun e W' => e = .returned (.bool true) ∧ ∃ o', PA w W' p o' (st.comes i f) ∧ Stays o W W' o') := by
  obtain ⟨a, vt, vm, h⟩ := h
  have HHLEN := Aside0.mk hlen
  obtain ⟨W0, hW0⟩ : ∃ W0, W0 = W.alloc (.cells #[.int .u32 f.s, .int .i64 f.q, .int .i64 f.k, .slice B f.d.length c] 42) := ⟨_, rfl⟩
  obtain ⟨b0, hb0⟩ : ∃ b0, b0 = W.heap.size := ⟨_, rfl⟩
  have hbw : Below W.heap.size W W0 := by rw [hW0]; exact below_alloc (Below.refl _ _) _
  have hh0 : W0.heap[b0]? = some (.cells #[.int .u32 f.s, .int .i64 f.q, .int .i64 f.k, .slice B f.d.length c] 42 (0, 0)) := by rw [hW0, hb0]; exact heap_alloc_new W _
  obtain ⟨o0, ho0⟩ : ∃ o0, o0 = rl W o 9 := ⟨_, rfl⟩
  have ho00 : ∀ k, k < W.heap.size → o0 k = o k := fun k hk => by rw [ho0]; exact rl_old hk
  have hp0 : PV w W0 p o0 st a vt vm := h.below' hbw ho00 (by rw [ho0]; exact rl_base h.base h.below.size)
  have hs0 : Stays o W W0 o0 := Stays.of_below hbw ho00
  have hq0 : QB W0 0 (.slice B f.d.length c) f.d := hq.move (fun k e => hbw.block k (hq.block e).2)
  have hq9 : ∀ k, (Value.slice B f.d.length c).ownBlock = some k → o0 k = 9 := fun k e => (ho00 k (hq.block e).2).trans (hqo k e)
  obtain ⟨r, hr⟩ : ∃ r, r = (st.e i).on f := ⟨_, rfl⟩
  obtain ⟨m, hm⟩ : ∃ m, m = r.2.1.length := ⟨_, rfl⟩
  have hst : st.comes i f = { st with e := upd st.e i r.1, tx := if m = 0 then st.tx else upd st.tx (2 + i) (st.tx (2 + i) ++ [r.2.1]) } := by rw [hm, hr]; rfl
  have HST := Aside0.mk hst
  have HMM := Aside0.mk hm
  have HON : Aside0 (∀ W1, Below W0.heap.size W0 W1 → Calls Try.prog 13 #[.pointer (some ⟨a i, 0, none⟩), .agg #[.int .u32 f.s, .int .i64 f.q, .int .i64 f.k, .slice B f.d.length c]] W1 (fun e W2 => ∃ A d o2, e = .returned (.tuple #[.slice A m d, .int .i64 0]) ∧ PV w W2 p o2 { st with e := upd st.e i r.1 } a vt vm ∧ Stays o W W2 o2 ∧ DT w W2 o2 A d r.2.1 ∧ m ≤ 9223372036854775807 ∧ W2.cell? ⟨p, i, none⟩ = some (.pointer (some ⟨a i, 0, none⟩)) ∧ W2.cell? ⟨b0, 0, none⟩ = some (.int .u32 f.s) ∧ W2.cell? ⟨b0, 1, none⟩ = some (.int .i64 f.q) ∧ W2.cell? ⟨b0, 2, none⟩ = some (.int .i64 f.k) ∧ W2.cell? ⟨b0, 3, none⟩ = some (.slice B f.d.length c))) := ⟨fun W1 hW1 => by
    have hp1 := hp0.under hW1
    have hq1 : QB W1 0 (.slice B f.d.length c) f.d := hq0.move (fun k e => hW1.block k (hq0.block e).2)
    have hfix : ∀ W2, Kept W1 (fun k => o0 k = i) W2 → Kd.C (Kd.int .u8) W2 B f.d.length f.d := fun W2 hk => by
      have hq2 : QB W2 0 (.slice B f.d.length c) f.d := hq1.move (fun k e => hk.block k (hq1.block e).2 (fun e2 => by
        have e9 := hq9 k e
        have e2 : o0 k = i := e2
        omega))
      obtain ⟨B', d', e, _, _, hC⟩ := hq2.form
      injection e with e1 _ _
      rw [e1]
      exact hC
    refine (eon_calls W1 (a i) (st.e i) (fun k => o0 k = i) f B c (hp1.ends i hi) (hfix W1 (Kept.refl _ _)) hok (by omega) hfix).mono ?_
    rw [← hr]
    rintro e W2 ⟨A, d, rfl, ho, he, hk⟩
    rw [hr, hon, ← hr]
    have hs := hk.size
    have hb9 : o0 b0 = 9 := by rw [ho0, hb0]; exact rl_new (Nat.le_refl _)
    have hbl := (Array.getElem?_eq_some_iff.1 hh0).1
    have hh2 : W2.heap[b0]? = some (.cells #[.int .u32 f.s, .int .i64 f.q, .int .i64 f.k, .slice B f.d.length c] 42 (0, 0)) := (hk.block b0 (Nat.lt_of_lt_of_le hbl hW1.size) (fun e2 => by have e2 : o0 b0 = i := e2; omega)).trans (blk_keep hh0 hW1)
    have hP2 : PV w W2 p (rl W1 o0 9) { st with e := upd st.e i r.1 } a vt vm := hp1.end_call hi hk (fun k hk => rl_old hk) (rl_base hp1.base hp1.below.size) (he.mono (fun k e hl => by
      have e : o0 k = i := e
      show rl W1 o0 9 k = i
      by_cases hkl : k < W1.heap.size
      · rw [rl_old hkl]; exact e
      · have : o0 k = 9 := by rw [ho0]; exact rl_new (by have := hW1.size; have := hbw.size; omega)
        omega))
    refine ⟨A, d, rl W1 o0 9, by rw [hm], hP2, ?_, .inr ⟨(QB.of_OB ho).lower (Nat.zero_le _), fun k e => rl_new (own_base ho k e)⟩, ?_, hP2.fields.1 i hi, four_at hh2⟩
    · refine hs0.trans ((Stays.of_below (o' := o0) hW1 (fun _ _ => rfl)).trans ⟨hs, fun k hk => rl_old hk, fun k hl e => hk.block k hl (fun e2 => by have e2 : o0 k = i := e2; omega)⟩)
    · obtain ⟨A', c', e', hC⟩ := ho.reads
      rw [hm]
      exact hC.2.1⟩
  have HB0 : Aside0 (b0 < W0.heap.size) := ⟨(Array.getElem?_eq_some_iff.1 hh0).1⟩
  have HS : Aside0 (∀ W1, Below W0.heap.size W0 W1 → W1.cell? ⟨p, i, none⟩ = some (.pointer (some ⟨a i, 0, none⟩)) ∧ W1.cell? ⟨b0, 0, none⟩ = some (.int .u32 f.s) ∧ W1.cell? ⟨b0, 1, none⟩ = some (.int .i64 f.q) ∧ W1.cell? ⟨b0, 2, none⟩ = some (.int .i64 f.k) ∧ W1.cell? ⟨b0, 3, none⟩ = some (.slice B f.d.length c)) := ⟨fun W1 hW1 => ⟨(hp0.under hW1).fields.1 i hi, four_at (blk_keep hh0 hW1)⟩⟩
  have HBD0 : Aside0 (Below W0.heap.size W0 W0) := ⟨Below.refl _ _⟩
  have HBD1 : Aside0 (Below W0.heap.size W0 W0.drew) := ⟨below_drew (Below.refl _ _)⟩
  have HW0 := Aside0.mk hW0
  have HB00 := Aside0.mk hb0
  have hx := HS.out _ HBD0.out
  clear h hlen hbw hh0 ho00 hp0 hs0 hq0 hq9 hr hm hst hq hqo hok hfl hon ho0 hW0 hb0
  have hi01 : i = 0 ∨ i = 1 := by omega
  rcases hi01 with rfl | rfl
  · clear hi
    go_enter Try.func25, Try.ntmps25
    go_wp2_with fail
    rw [← HW0.out, ← HB00.out]
    go_region_held_law (fun W1 => W1.cell? ⟨p, 0, none⟩ = some (.pointer (some ⟨a 0, 0, none⟩)) ∧ W1.cell? ⟨b0, 0, none⟩ = some (.int .u32 f.s) ∧ W1.cell? ⟨b0, 1, none⟩ = some (.int .i64 f.q) ∧ W1.cell? ⟨b0, 2, none⟩ = some (.int .i64 f.k) ∧ W1.cell? ⟨b0, 3, none⟩ = some (.slice B f.d.length c)) (first | exact HS.out _ (Aside0.out (by assumption)) | exact Aside0.out (by assumption))
      ((go_at_call 13; refine (HON.out _ (Aside0.out (by assumption))).mono ?_; rintro e W2 ⟨A3, d3, o2, rfl, hp2, hs2, hd2, hm63, hc2⟩; have HP2 := Aside0.mk hp2; have HS2 := Aside0.mk hs2; have HD2 := Aside0.mk hd2; have HC2 : Aside0 (W2.cell? ⟨p, 0, none⟩ = some (.pointer (some ⟨a 0, 0, none⟩)) ∧ W2.cell? ⟨b0, 0, none⟩ = some (.int .u32 f.s) ∧ W2.cell? ⟨b0, 1, none⟩ = some (.int .i64 f.q) ∧ W2.cell? ⟨b0, 2, none⟩ = some (.int .i64 f.k) ∧ W2.cell? ⟨b0, 3, none⟩ = some (.slice B f.d.length c)) := ⟨hc2⟩; have HM63 := Aside0.mk hm63; clear hp2 hs2 hd2 hc2 hm63))
    all_goals
      have hm63 := HM63.out
      rcases Nat.eq_zero_or_pos m with hm0 | hm0
      · have hlt : ¬ (0 : Int) < (m : Int) := by omega
        have HM0 := Aside0.mk hm0
        clear hm0 hx
        go_wp2_with fail
        go_ret
        exact ⟨rfl, o2, by rw [HST.out, if_pos HM0.out]; exact ⟨a, vt, vm, HP2.out⟩, HS2.out⟩
      · have hlt : (0 : Int) < (m : Int) := by omega
        have HM0 : Aside0 (¬ m = 0) := ⟨by omega⟩
        obtain ⟨vs, hv1, hv2, hv3⟩ := HP2.out.texts (2 + 0) (by decide)
        obtain ⟨A4, d4, e4, hd4, hd5⟩ := hv1.form
        have hx4 := (HP2.out.fields.2.1 (2 + 0) (by decide)).1
        rw [e4] at hx4
        obtain ⟨n, hn⟩ : ∃ n, n = (st.tx (2 + 0)).length := ⟨_, rfl⟩
        have HN := Aside0.mk hn
        have HLEN : Aside0 (n ≤ 1000000) := ⟨by rw [hn]; have := HHLEN.out; omega⟩
        have hx4 : W2.cell? ⟨p, 4, none⟩ = some (.slice A4 n d4) := by rw [hn]; exact hx4
        have HV2 : Aside0 (∀ W3, Below W2.heap.size W2 W3 → OwnAt W3 0 38 1 (.slice A4 n d4) n vs) := ⟨fun W3 hW => by
          have := hv1.move (fun k e => hW.block k (hv1.block e).2)
          rw [e4] at this
          rw [hn]
          exact this⟩
        have HHV := Aside0.mk (And.intro hv1 (And.intro hv2 hv3))
        have HX4 : Aside0 (∀ W3, Below W2.heap.size W2 W3 → W3.cell? ⟨p, 4, none⟩ = some (.slice A4 n d4)) := ⟨fun W3 hW => (hW.cell (World.block_lt_of_cell? _ _ hx4)).trans hx4⟩
        have HE4 : Aside0 (vt (2 + 0) = .slice A4 n d4) := ⟨by rw [hn]; exact e4⟩
        have HPB : Aside0 (∀ w4, W2.grownBy w4 (Value.slice A4 n d4).ownBlock → w4.cell? ⟨p, 4, none⟩ = some (.slice A4 n d4) ∧ w4.frozen? ⟨p, 4, none⟩ = false) := ⟨fun w4 hg => by
          have hpb : w4.heap[p]? = W2.heap[p]? := hg.block p (Array.getElem?_eq_some_iff.1 HP2.out.cells).1 (fun e => by
            have h1 := HP2.out.op
            rw [← HE4.out] at e
            have := HHV.out.2.1 p e.symm
            omega)
          have h1 := HP2.out.fields.2.1 (2 + 0) (by decide)
          rw [HE4.out] at h1
          have hcell : ∀ j, w4.cell? ⟨p, j, none⟩ = W2.cell? ⟨p, j, none⟩ := fun j => by unfold World.cell?; rw [hpb]
          have hfr : ∀ j, w4.frozen? ⟨p, j, none⟩ = W2.frozen? ⟨p, j, none⟩ := fun j => by unfold World.frozen?; rw [hpb]
          exact ⟨(hcell _).trans h1.1, (hfr _).trans h1.2⟩⟩
        have y1 := HX4.out _ (below_drew (Below.refl _ _))
        have y2 := HX4.out _ (below_alloc (Below.refl _ _) (.cells #[.slice A3 m d3] 38))
        have y3 := HX4.out _ (below_drew (below_alloc (Below.refl _ _) (.cells #[.slice A3 m d3] 38)))
        have y4 := HX4.out _ (below_alloc (below_drew (Below.refl _ _)) (.cells #[.slice A3 m d3] 38))
        clear hm0 hx hv1 hv2 hv3 e4 hd4 hd5 hn
        go_wp2_with fail
        go_region_law (refine step_row rfl (.tmp 32) (.tmp 34) rfl (.slice A4 n d4) vs n (.slice A3 m d3) W2.heap.size rfl rfl (HV2.out _ (by first | exact below_alloc (Below.refl _ _) _ | exact below_drew (below_alloc (Below.refl _ _) _) | exact below_alloc (below_drew (Below.refl _ _)) _)) (by first | exact heap_alloc_new W2 _ | exact heap_alloc_new W2.drew _) rfl HLEN.out ?_; intro v1 w4 ho1 hg1 hn1; obtain ⟨A5, d5, rfl, _⟩ := ho1.form; have HG0 : Aside0 (W2.grownBy w4 (Value.slice A4 n d4).ownBlock) := ⟨by first | exact grown_below (below_alloc (Below.refl _ _) _) hg1 | exact grown_below (below_drew (below_alloc (Below.refl _ _) _)) hg1 | exact grown_below (below_alloc (below_drew (Below.refl _ _)) _) hg1⟩; obtain ⟨e0, g0⟩ := HPB.out _ HG0.out; have HO1 := Aside0.mk ho1; have HN1 : Aside0 ((Value.slice A5 (n + 1) d5).ownBlock = (Value.slice A4 n d4).ownBlock ∨ ∃ b, (Value.slice A5 (n + 1) d5).ownBlock = some b ∧ W2.heap.size ≤ b) := ⟨hn1.imp id (fun ⟨b, e, h⟩ => ⟨b, e, Nat.le_trans (by simp) h⟩)⟩; clear ho1 hg1 hn1)
        all_goals
          go_wp2_with fail
          go_ret
          have ho1 := HO1.out
          have hn1 := HN1.out
          have hg0 := HG0.out
          rw [← HE4.out] at hn1 hg0
          have hlst : r.2.1.length = m := HMM.out.symm
          have hfin : PV w (w4.setCell ⟨p, 2 + (2 + 0), none⟩ (.slice A5 (n + 1) d5)) p (rl W2 o2 (3 + (2 + 0))) _ a _ vm := HP2.out.text (r := 2 + 0) (A := A3) (c := d3) (l := r.2.1) (by decide) HHV.out.1 HHV.out.2.2 HD2.out (Below.refl _ _) (by rw [hlst]; show OwnAt w4 0 _ 1 _ ((st.tx (2 + 0)).length + 1) _; rw [← HN.out]; exact ho1) hg0 hn1
          refine ⟨rfl, _, by rw [HST.out, if_neg HM0.out]; exact ⟨_, _, _, hfin⟩, HS2.out.trans ⟨?_, fun k hk => rl_old hk, fun k hk e => row_old (Below.refl _ _) hg0 HHV.out.2.1 HP2.out.op hk (by omega) (by omega)⟩⟩
          simp only [World.setCell, Array.size_modify]
          exact hg0.size
  · clear hi
    go_enter Try.func25, Try.ntmps25
    go_wp2_with fail
    rw [← HW0.out, ← HB00.out]
    go_region_held_law (fun W1 => W1.cell? ⟨p, 1, none⟩ = some (.pointer (some ⟨a 1, 0, none⟩)) ∧ W1.cell? ⟨b0, 0, none⟩ = some (.int .u32 f.s) ∧ W1.cell? ⟨b0, 1, none⟩ = some (.int .i64 f.q) ∧ W1.cell? ⟨b0, 2, none⟩ = some (.int .i64 f.k) ∧ W1.cell? ⟨b0, 3, none⟩ = some (.slice B f.d.length c)) (first | exact HS.out _ (Aside0.out (by assumption)) | exact Aside0.out (by assumption))
      ((go_at_call 13; refine (HON.out _ (Aside0.out (by assumption))).mono ?_; rintro e W2 ⟨A3, d3, o2, rfl, hp2, hs2, hd2, hm63, hc2⟩; have HP2 := Aside0.mk hp2; have HS2 := Aside0.mk hs2; have HD2 := Aside0.mk hd2; have HC2 : Aside0 (W2.cell? ⟨p, 1, none⟩ = some (.pointer (some ⟨a 1, 0, none⟩)) ∧ W2.cell? ⟨b0, 0, none⟩ = some (.int .u32 f.s) ∧ W2.cell? ⟨b0, 1, none⟩ = some (.int .i64 f.q) ∧ W2.cell? ⟨b0, 2, none⟩ = some (.int .i64 f.k) ∧ W2.cell? ⟨b0, 3, none⟩ = some (.slice B f.d.length c)) := ⟨hc2⟩; have HM63 := Aside0.mk hm63; clear hp2 hs2 hd2 hc2 hm63))
    all_goals
      have hm63 := HM63.out
      rcases Nat.eq_zero_or_pos m with hm0 | hm0
      · have hlt : ¬ (0 : Int) < (m : Int) := by omega
        have HM0 := Aside0.mk hm0
        clear hm0 hx
        go_wp2_with fail
        go_ret
        exact ⟨rfl, o2, by rw [HST.out, if_pos HM0.out]; exact ⟨a, vt, vm, HP2.out⟩, HS2.out⟩
      · have hlt : (0 : Int) < (m : Int) := by omega
        have HM0 : Aside0 (¬ m = 0) := ⟨by omega⟩
        obtain ⟨vs, hv1, hv2, hv3⟩ := HP2.out.texts (2 + 1) (by decide)
        obtain ⟨A4, d4, e4, hd4, hd5⟩ := hv1.form
        have hx4 := (HP2.out.fields.2.1 (2 + 1) (by decide)).1
        rw [e4] at hx4
        obtain ⟨n, hn⟩ : ∃ n, n = (st.tx (2 + 1)).length := ⟨_, rfl⟩
        have HN := Aside0.mk hn
        have HLEN : Aside0 (n ≤ 1000000) := ⟨by rw [hn]; have := HHLEN.out; omega⟩
        have hx4 : W2.cell? ⟨p, 5, none⟩ = some (.slice A4 n d4) := by rw [hn]; exact hx4
        have HV2 : Aside0 (∀ W3, Below W2.heap.size W2 W3 → OwnAt W3 0 38 1 (.slice A4 n d4) n vs) := ⟨fun W3 hW => by
          have := hv1.move (fun k e => hW.block k (hv1.block e).2)
          rw [e4] at this
          rw [hn]
          exact this⟩
        have HHV := Aside0.mk (And.intro hv1 (And.intro hv2 hv3))
        have HX4 : Aside0 (∀ W3, Below W2.heap.size W2 W3 → W3.cell? ⟨p, 5, none⟩ = some (.slice A4 n d4)) := ⟨fun W3 hW => (hW.cell (World.block_lt_of_cell? _ _ hx4)).trans hx4⟩
        have HE4 : Aside0 (vt (2 + 1) = .slice A4 n d4) := ⟨by rw [hn]; exact e4⟩
        have HPB : Aside0 (∀ w4, W2.grownBy w4 (Value.slice A4 n d4).ownBlock → w4.cell? ⟨p, 5, none⟩ = some (.slice A4 n d4) ∧ w4.frozen? ⟨p, 5, none⟩ = false) := ⟨fun w4 hg => by
          have hpb : w4.heap[p]? = W2.heap[p]? := hg.block p (Array.getElem?_eq_some_iff.1 HP2.out.cells).1 (fun e => by
            have h1 := HP2.out.op
            rw [← HE4.out] at e
            have := HHV.out.2.1 p e.symm
            omega)
          have h1 := HP2.out.fields.2.1 (2 + 1) (by decide)
          rw [HE4.out] at h1
          have hcell : ∀ j, w4.cell? ⟨p, j, none⟩ = W2.cell? ⟨p, j, none⟩ := fun j => by unfold World.cell?; rw [hpb]
          have hfr : ∀ j, w4.frozen? ⟨p, j, none⟩ = W2.frozen? ⟨p, j, none⟩ := fun j => by unfold World.frozen?; rw [hpb]
          exact ⟨(hcell _).trans h1.1, (hfr _).trans h1.2⟩⟩
        have y1 := HX4.out _ (below_drew (Below.refl _ _))
        have y2 := HX4.out _ (below_alloc (Below.refl _ _) (.cells #[.slice A3 m d3] 38))
        have y3 := HX4.out _ (below_drew (below_alloc (Below.refl _ _) (.cells #[.slice A3 m d3] 38)))
        have y4 := HX4.out _ (below_alloc (below_drew (Below.refl _ _)) (.cells #[.slice A3 m d3] 38))
        clear hm0 hx hv1 hv2 hv3 e4 hd4 hd5 hn
        go_wp2_with fail
        go_region_law (refine step_row rfl (.tmp 32) (.tmp 34) rfl (.slice A4 n d4) vs n (.slice A3 m d3) W2.heap.size rfl rfl (HV2.out _ (by first | exact below_alloc (Below.refl _ _) _ | exact below_drew (below_alloc (Below.refl _ _) _) | exact below_alloc (below_drew (Below.refl _ _)) _)) (by first | exact heap_alloc_new W2 _ | exact heap_alloc_new W2.drew _) rfl HLEN.out ?_; intro v1 w4 ho1 hg1 hn1; obtain ⟨A5, d5, rfl, _⟩ := ho1.form; have HG0 : Aside0 (W2.grownBy w4 (Value.slice A4 n d4).ownBlock) := ⟨by first | exact grown_below (below_alloc (Below.refl _ _) _) hg1 | exact grown_below (below_drew (below_alloc (Below.refl _ _) _)) hg1 | exact grown_below (below_alloc (below_drew (Below.refl _ _)) _) hg1⟩; obtain ⟨e0, g0⟩ := HPB.out _ HG0.out; have HO1 := Aside0.mk ho1; have HN1 : Aside0 ((Value.slice A5 (n + 1) d5).ownBlock = (Value.slice A4 n d4).ownBlock ∨ ∃ b, (Value.slice A5 (n + 1) d5).ownBlock = some b ∧ W2.heap.size ≤ b) := ⟨hn1.imp id (fun ⟨b, e, h⟩ => ⟨b, e, Nat.le_trans (by simp) h⟩)⟩; clear ho1 hg1 hn1)
        all_goals
          go_wp2_with fail
          go_ret
          have ho1 := HO1.out
          have hn1 := HN1.out
          have hg0 := HG0.out
          rw [← HE4.out] at hn1 hg0
          have hlst : r.2.1.length = m := HMM.out.symm
          have hfin : PV w (w4.setCell ⟨p, 2 + (2 + 1), none⟩ (.slice A5 (n + 1) d5)) p (rl W2 o2 (3 + (2 + 1))) _ a _ vm := HP2.out.text (r := 2 + 1) (A := A3) (c := d3) (l := r.2.1) (by decide) HHV.out.1 HHV.out.2.2 HD2.out (Below.refl _ _) (by rw [hlst]; show OwnAt w4 0 _ 1 _ ((st.tx (2 + 1)).length + 1) _; rw [← HN.out]; exact ho1) hg0 hn1
          refine ⟨rfl, _, by rw [HST.out, if_neg HM0.out]; exact ⟨_, _, _, hfin⟩, HS2.out.trans ⟨?_, fun k hk => rl_old hk, fun k hk e => row_old (Below.refl _ _) hg0 HHV.out.2.1 HP2.out.op hk (by omega) (by omega)⟩⟩
          simp only [World.setCell, Array.size_modify]
          exact hg0.size
end Go.Proofs.Ytcpkfkcemaihfaa.Oct
