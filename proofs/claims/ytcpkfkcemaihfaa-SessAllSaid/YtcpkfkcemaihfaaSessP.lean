import Derived.Test.YtcpkfkcemaihfaaSessO
/- The document's Frames. -/
namespace Go.Proofs.Ytcpkfkcemaihfaa.Oct
open Go.RowKit Go.Proofs.YtcpkfkcemaihfaaW.PrintWords Go.Proofs.Ytcpkfkcemaihfaa.M
set_option linter.unusedVariables false
set_option linter.unusedSimpArgs false
/-- frames in a row of the call's own; their data lie anywhere -/
def FM (W : World) (base : Nat) (v : Value) (ls : List FR) : Prop := ∃ vs : List Value, OwnAt W base 42 4 v ls.length vs ∧ ∀ (j : Nat) (f : FR), ls[j]? = some f → vs[4 * j]? = some (.int .u32 f.s) ∧ vs[4 * j + 1]? = some (.int .i64 f.q) ∧ vs[4 * j + 2]? = some (.int .i64 f.k) ∧ ∃ u, vs[4 * j + 3]? = some u ∧ QB W 0 u f.d
theorem FM.nil (W : World) (base : Nat) : FM W base (.slice none 0 0) [] := ⟨[], OwnAt.nil _ _ _ _, fun j r h => by simp at h⟩
theorem FM.below {W W' : World} {base : Nat} {v : Value} {ls : List FR} (h : FM W base v ls) (hb : Below W.heap.size W W') : FM W' base v ls := by
  obtain ⟨vs, h1, h2⟩ := h
  refine ⟨vs, h1.move (fun k hk => hb.block k (h1.block hk).2), fun j f hj => ?_⟩
  obtain ⟨e1, e2, e3, u, e4, ho⟩ := h2 j f hj
  exact ⟨e1, e2, e3, u, e4, ho.move (fun k hk => hb.block k (ho.block hk).2)⟩
theorem FW.fm {W : World} {base : Nat} {v : Value} {ls : List FR} (h : FW W base v ls) : FM W base v ls := by
  obtain ⟨vs, h1, h2⟩ := h
  refine ⟨vs, h1, fun j f hj => ?_⟩
  obtain ⟨e1, e2, e3, u, e4, ho⟩ := h2 j f hj
  exact ⟨e1, e2, e3, u, e4, ho.lower (Nat.zero_le _)⟩
theorem FM.form {W : World} {base : Nat} {v : Value} {ls : List FR} (h : FM W base v ls) : ∃ A c, v = .slice A ls.length c ∧ ls.length ≤ c := by
  obtain ⟨vs, h1, _⟩ := h
  exact own_form h1
theorem FM.add {W w1 : World} {base n : Nat} {vout v1 u : Value} {ls : List FR} {f : FR} {vs : List Value} (hn : n = ls.length) (e2 : OwnAt W base 42 4 vout n vs)
    (e3 : ∀ (j : Nat) (f : FR), ls[j]? = some f → vs[4 * j]? = some (.int .u32 f.s) ∧ vs[4 * j + 1]? = some (.int .i64 f.q) ∧ vs[4 * j + 2]? = some (.int .i64 f.k) ∧ ∃ u, vs[4 * j + 3]? = some u ∧ QB W 0 u f.d) (hq : QB W 0 u f.d)
    (ho1 : OwnAt w1 base 42 4 v1 (n + 1) (vs ++ [.int .u32 f.s, .int .i64 f.q, .int .i64 f.k, u])) (hg : W.grownBy w1 vout.ownBlock) : FM w1 base v1 (ls ++ [f]) := by
  subst hn
  have hmove : ∀ {u' : Value} {l' : List Int}, QB W 0 u' l' → QB w1 0 u' l' := fun {u' l'} ho => ho.move (fun k hk => hg.block k (ho.block hk).2 (fun e => by
    obtain ⟨cur, hc⟩ := e2.type e.symm
    obtain ⟨cur2, hc2⟩ := OwnAt.type ho hk
    rw [hc] at hc2
    injection hc2 with hc2
    injection hc2 with _ hc2
    exact absurd hc2 (by decide)))
  have hl := e2.1
  refine ⟨vs ++ [.int .u32 f.s, .int .i64 f.q, .int .i64 f.k, u], by rw [List.length_append]; exact ho1, fun j q hj => ?_⟩
  rcases Nat.lt_or_ge j ls.length with h | h
  · rw [List.getElem?_append_left h] at hj
    obtain ⟨f1, f2, f3, u', f4, f5⟩ := e3 j q hj
    rw [List.getElem?_append_left (by omega), List.getElem?_append_left (by omega), List.getElem?_append_left (by omega), List.getElem?_append_left (by omega)]
    exact ⟨f1, f2, f3, u', f4, hmove f5⟩
  · have hjl : j = ls.length := by have := (List.getElem?_eq_some_iff.1 hj).1; simp at this; omega
    subst hjl
    rw [List.getElem?_append_right (Nat.le_refl _), Nat.sub_self] at hj
    obtain rfl : q = f := by simpa using hj.symm
    rw [List.getElem?_append_right (by omega), List.getElem?_append_right (by omega), List.getElem?_append_right (by omega), List.getElem?_append_right (by omega), show 4 * ls.length - vs.length = 0 by omega, show 4 * ls.length + 1 - vs.length = 1 by omega, show 4 * ls.length + 2 - vs.length = 2 by omega, show 4 * ls.length + 3 - vs.length = 3 by omega]
    exact ⟨rfl, rfl, rfl, u, rfl, hmove hq⟩
/-- one step of a region that draws: append(v, f) -/
theorem step_framem {ops : Array Oper} {o : Oper} {a : Act} {K : Act → World → Prop} {Q : Exit → Act → World → Prop} {E : Prop} {W : World} (base : Nat) (hgd : o.guard = none) (s x : Operand)
    (ho : o.op = .call { callee := .builtin .append, args := #[s, x], argTypes := #[32, 32] })
    (v : Value) (ls : List FR) (f : FR) (u : Value) (g : Nat) (hs : a.eval s = v) (hx : a.eval x = .slice (some ⟨g, 0, none⟩) 1 1) (HO : FM W base v ls) (hb : W.heap[g]? = some (.cells #[.int .u32 f.s, .int .i64 f.q, .int .i64 f.k, u] 42 (0, 0))) (HU : QB W 0 u f.d) (hbase : base ≤ W.heap.size) (hl : ls.length ≤ 1000000)
    (h : ∀ v1 w1, FM w1 base v1 (ls ++ [f]) → W.grownBy w1 v.ownBlock → (∀ k, v.ownBlock = some k → base ≤ k) → K (a.put o.dst v1) w1) :
    if Region.wanted o (yielded ops a.tmps) = true then Oper.wp Try.prog o a W K Q else E := by
  obtain ⟨vs, e2, e3⟩ := HO
  obtain ⟨i0, hi0, hz0, hz1, hz2⟩ := info_parts info_frame
  obtain ⟨Au, du, rfl, _⟩ := HU.form
  refine step_append_at W hgd s x 32 ho base 42 i0 _ 4 48 Try.underlying32 hi0 hz0 hz1 hz2 rfl (by decide) v ls.length vs hs e2 (some ⟨g, 0, none⟩) 1 1 [.int .u32 f.s, .int .i64 f.q, .int .i64 f.k, .slice Au f.d.length du] hx rfl (fun _ => ⟨_, rfl, four_news hb⟩) (by simp [Value.oneCell']) (by simp only [maxLen]; omega) (by omega) hbase ?_
  intro v1 w1 ho1 hg hn
  exact h v1 w1 (FM.add rfl e2 e3 HU ho1 hg) hg (fun k hk => (e2.block hk).1)
set_option maxRecDepth 20000 in
set_option maxHeartbeats 8000000 in
theorem dframes_one (w : World) (p : Nat) (s : Es) (F : Nat → Prop) (h : REnd w p s F) (h0 : s.q.length = 0) :
    Calls Try.prog 22 #[.pointer (some ⟨p, 0, none⟩)] w fun e w' => ∃ A c, e = .returned (.slice A s.frames.length c) ∧ FM w' w.heap.size (.slice A s.frames.length c) s.frames ∧ Below w.heap.size w w' := by
  have HV := Aside0.mk (Es.frames_none h0)
  obtain ⟨A, d, hd, hh⟩ := h.cells
  rw [h0] at hh
  obtain ⟨⟨c0, c1, c2, c3, c4⟩, _⟩ := five_cells hh
  have HS : Aside0 (∀ W, Below w.heap.size w W → W.cell? ⟨p, 0, none⟩ = some (.int .u32 s.ses) ∧ W.cell? ⟨p, 4, none⟩ = some (.int .i64 s.exp)) := ⟨fun W hW => ⟨(hW.cell (World.block_lt_of_cell? _ _ c0)).trans c0, (hW.cell (World.block_lt_of_cell? _ _ c4)).trans c4⟩⟩
  clear h hh hd h0
  have HB0 : Aside0 (Below w.heap.size w w) := ⟨Below.refl _ _⟩
  go_enter Try.func22, Try.ntmps22
  go_wp2_with fail
  go_loopw [3, 4] (fun v3 v4 wr => v3 = .slice none 0 0 ∧ v4 = .int .i64 0 ∧ wr = w) (fun _ _ _ => 0)
  case atStart => exact ⟨rfl, rfl, rfl⟩
  case round =>
    obtain ⟨rfl, rfl, hwr⟩ := hrel
    have hwr := hwr.symm
    subst hwr
    have HBD : Aside0 (Below w.heap.size w w.drew) := ⟨below_drew (Below.refl _ _)⟩
    have hz : ¬ (0 : Int) < ((0 : Nat) : Int) := by decide
    go_wp2_with fail
    go_region_held_law (fun W => W.cell? ⟨p, 0, none⟩ = some (.int .u32 s.ses) ∧ W.cell? ⟨p, 4, none⟩ = some (.int .i64 s.exp)) (exact HS.out _ (by first | exact (Aside0.out (by assumption)) | exact below_alloc (Aside0.out (by assumption)) _))
      (first | (refine step_framem w.heap.size rfl (.tmp 56) (.tmp 66) rfl (.slice none 0 0) [] ⟨s.ses, 0, s.exp, []⟩ (.slice none 0 0) w.heap.size rfl rfl (FM.nil _ _) (by first | exact heap_alloc_new w.drew _ | exact heap_alloc_new w _) (QB.nil _ _) (by first | exact (below_alloc HBD.out _).size | exact (below_drew (below_alloc HB0.out _)).size) (by decide) ?_; intro v1 w4 ho1 hg1 hk1; obtain ⟨A3, c3', rfl, _⟩ := ho1.form; have HO4 := Aside0.mk ho1; have HB4 : Aside0 (Below w.heap.size w w4) := ⟨by first | exact (below_alloc HBD.out _).grown hg1 (below_alloc HBD.out _).size hk1 | exact (below_drew (below_alloc HB0.out _)).grown hg1 (below_drew (below_alloc HB0.out _)).size hk1⟩; clear ho1 hg1 hk1))
    all_goals
      go_wp2_with fail
      go_ret
      rw [HV.out]
      exact ⟨_, _, rfl, HO4.out, HB4.out⟩
set_option maxRecDepth 20000 in
set_option maxHeartbeats 8000000 in
theorem dframes_more (w : World) (p : Nat) (s : Es) (F : Nat → Prop) (h : REnd w p s F) (h0 : s.q.length ≠ 0) :
    Calls Try.prog 22 #[.pointer (some ⟨p, 0, none⟩)] w fun e w' => ∃ A c, e = .returned (.slice A s.frames.length c) ∧ FM w' w.heap.size (.slice A s.frames.length c) s.frames ∧ Below w.heap.size w w' := by
  have HV := Aside0.mk (Es.frames_some h0)
  have hok := h.is.2.2
  have HOK := Aside0.mk hok
  obtain ⟨v, hh, ⟨vs, ho, hk, he⟩, hp, _⟩ := h
  have HA := Aside0.mk (And.intro ho he)
  obtain ⟨A, d, rfl, hd⟩ := own_form ho
  have hl : s.q.length ≤ 64 := hok.2.2.1
  have hw1 : 1 ≤ s.win ∧ s.win ≤ 16 := hok.2.1
  have hfl : s.first + s.q.length ≤ 65535 := hok.2.2.2.2.1
  obtain ⟨n, hn⟩ : ∃ n, n = s.q.length := ⟨_, rfl⟩
  rw [← hn] at hh hl hfl hd h0 HV
  have HN := Aside0.mk hn
  obtain ⟨M, hM⟩ : ∃ M, M = min n s.win := ⟨_, rfl⟩
  rw [← hM] at HV
  have HM : Aside0 (M ≤ n ∧ M ≤ 16 ∧ M ≤ s.win ∧ (M = n ∨ (M = s.win ∧ s.win < n))) := ⟨by omega⟩
  have HFL : Aside0 (s.frames.length = M) := ⟨by rw [HV.out, List.length_map, List.length_range]⟩
  have hne : ((n : Int) == 0) = false := by simp; omega
  have HC : Aside0 (∀ W, Below w.heap.size w W → W.cell? ⟨p, 0, none⟩ = some (.int .u32 s.ses) ∧ W.cell? ⟨p, 1, none⟩ = some (.int .i64 s.win) ∧ W.cell? ⟨p, 2, none⟩ = some (.slice A n d) ∧ W.cell? ⟨p, 4, none⟩ = some (.int .i64 s.exp)) := ⟨fun W hW => by
    obtain ⟨⟨c0, c1, c2, c3, c4⟩, _⟩ := five_cells (blk_keep hh hW)
    exact ⟨c0, c1, c2, c4⟩⟩
  have HB0 : Aside0 (Below w.heap.size w w) := ⟨Below.refl _ _⟩
  clear hh hok hn hM h0 ho he hk hp hd hl hw1 hfl
  go_enter Try.func22, Try.ntmps22
  go_wp2_with fail
  go_loopw [3, 4] (fun v3 v4 wr => ∃ i : Nat, i ≤ M ∧ v4 = .int .i64 i ∧ Aside0 (Below w.heap.size w wr) ∧ Aside0 (FM wr w.heap.size v3 ((List.range i).map s.frame))) (fun _ v _ => M - (intOf v).toNat)
  case atStart => exact ⟨0, by omega, rfl, HB0, ⟨FM.nil _ _⟩⟩
  case round =>
    obtain ⟨i, hi, rfl, HB, HO⟩ := hrel
    obtain ⟨A3, c3, rfl, _⟩ := HO.out.form
    have HLS : Aside0 (((List.range i).map s.frame).length = i) := ⟨by rw [List.length_map, List.length_range]⟩
    obtain ⟨ls, hls⟩ : ∃ ls, ls = (List.range i).map s.frame := ⟨_, rfl⟩
    have HLL := Aside0.mk hls
    rw [← hls] at HO HLS
    rw [← hls]
    clear hls
    obtain ⟨c0, c1, c2, c4⟩ := HC.out _ HB.out
    by_cases hlt : i < M
    · obtain ⟨f1, u, f2, f3, _⟩ := HA.out.2 i (s.q.getD i []) (by rw [List.getD_eq_getElem?_getD, List.getElem?_eq_getElem (show i < s.q.length by have := HM.out.1; have := HN.out; omega)]; rfl)
      obtain ⟨Au, du, rfl, _⟩ := f3.form
      obtain ⟨ad, ea, k0⟩ := OwnAt.cell HA.out.1 f1
      obtain ⟨ad', ea', k1⟩ := OwnAt.cell HA.out.1 f2
      rw [ea] at ea'
      injection ea' with ea'
      subst ea'
      subst ea
      rw [Nat.mul_comm] at k0
      rw [Nat.mul_comm 2 i, add_lit9] at k1
      obtain ⟨y, hy⟩ : ∃ y, y = s.q.getD i [] := ⟨_, rfl⟩
      have HY := Aside0.mk hy
      rw [← hy] at k1 f3
      have HYQ := Aside0.mk f3
      obtain ⟨L, hL⟩ : ∃ L, L = y.length := ⟨_, rfl⟩
      have HL := Aside0.mk hL
      rw [← hL] at k1
      obtain ⟨X, hX⟩ : ∃ X : Int, X = (s.first : Int) + i := ⟨_, rfl⟩
      have HX := Aside0.mk hX
      rw [← hX] at k0
      have hM16 := HM.out.2.1
      have hin1 : (i : Int) < (n : Int) := by have := HM.out.1; omega
      have hin2 : (i : Int) < (s.win : Int) := by have := HM.out.2.2.1; omega
      have HS : Aside0 (∀ W, Below w.heap.size w W → W.cell? ⟨p, 0, none⟩ = some (.int .u32 s.ses) ∧ W.cell? ⟨p, 4, none⟩ = some (.int .i64 s.exp) ∧ W.cell? ⟨p, 2, none⟩ = some (.slice (some ad) n d) ∧ W.cell? (ad.add (i * 2)) = some (.int .i64 X) ∧ W.cell? ⟨(ad.add (i * 2)).block, (ad.add (i * 2)).off + 1, none⟩ = some (.slice Au L du)) := ⟨fun W hW => by
        obtain ⟨x0, _, x2, x4⟩ := HC.out W hW
        exact ⟨x0, x4, x2, (hW.cell (World.block_lt_of_cell? _ _ k0)).trans k0, (hW.cell (World.block_lt_of_cell? _ _ k1)).trans k1⟩⟩
      have HFM : Aside0 (∀ W, Below wr.heap.size wr W → FM W w.heap.size (.slice A3 ls.length c3) ls ∧ QB W 0 (.slice Au y.length du) y) := ⟨fun W hW => ⟨HO.out.below hW, HYQ.out.move (fun k e => (HB.out.trans (hW.mono HB.out.size)).block k (HYQ.out.block e).2)⟩⟩
      have HBW : Aside0 (∀ W, Below wr.heap.size wr W → Below w.heap.size w W ∧ w.heap.size ≤ W.heap.size) := ⟨fun W hW => ⟨HB.out.trans (hW.mono HB.out.size), Nat.le_trans HB.out.size hW.size⟩⟩
      have HBZ : Aside0 (Below wr.heap.size wr wr) := ⟨Below.refl _ _⟩
      have HBD : Aside0 (Below wr.heap.size wr wr.drew) := ⟨below_drew (Below.refl _ _)⟩
      have HBD1 : Aside0 (Below w.heap.size w wr.drew) := ⟨below_drew HB.out⟩
      have HLE : Aside0 (ls.length ≤ 1000000) := ⟨by have := HLS.out; have := HM.out.2; omega⟩
      have HFE : Aside0 (ls ++ [(⟨s.ses, X, s.exp, y⟩ : FR)] = (List.range (i + 1)).map s.frame) := ⟨by
        rw [HLL.out, List.range_succ, List.map_append]
        congr 1
        show _ = [s.frame i]
        unfold Es.frame
        rw [HX.out, HY.out]⟩
      clear f1 f2 f3 hy hL hX k0 k1 c0 c4
      go_wp2_with fail
      go_region_held_law (fun W => W.cell? ⟨p, 0, none⟩ = some (.int .u32 s.ses) ∧ W.cell? ⟨p, 4, none⟩ = some (.int .i64 s.exp) ∧ W.cell? ⟨p, 2, none⟩ = some (.slice (some ad) n d) ∧ W.cell? (ad.add (i * 2)) = some (.int .i64 X) ∧ W.cell? ⟨(ad.add (i * 2)).block, (ad.add (i * 2)).off + 1, none⟩ = some (.slice Au L du)) (exact HS.out _ (by first | exact (Aside0.out (by assumption)) | exact below_alloc (Aside0.out (by assumption)) _))
        (first | (refine step_framem w.heap.size rfl (.tmp 22) (.tmp 48) rfl (.slice A3 ls.length c3) ls ⟨s.ses, X, s.exp, y⟩ (.slice Au L du) wr.heap.size rfl rfl (HFM.out _ (by first | exact below_alloc HBD.out _ | exact below_drew (below_alloc HBZ.out _))).1 (by first | exact heap_alloc_new wr.drew _ | exact heap_alloc_new wr _) (by rw [HL.out]; exact (HFM.out _ (by first | exact below_alloc HBD.out _ | exact below_drew (below_alloc HBZ.out _))).2) (by first | exact (HBW.out _ (below_alloc HBD.out _)).2 | exact (HBW.out _ (below_drew (below_alloc HBZ.out _))).2) HLE.out ?_; intro v1 w4 ho1 hg1 hk1; rw [HFE.out] at ho1; have HO4 := Aside0.mk ho1; have HB4 : Aside0 (Below w.heap.size w w4) := ⟨by first | exact (HBW.out _ (below_alloc HBD.out _)).1.grown hg1 (HBW.out _ (below_alloc HBD.out _)).2 hk1 | exact (HBW.out _ (below_drew (below_alloc HBZ.out _))).1.grown hg1 (HBW.out _ (below_drew (below_alloc HBZ.out _))).2 hk1⟩; clear ho1 hg1 hk1))
      all_goals
        go_wp2_with fail
        go_roundw
        case rel => exact ⟨i + 1, by omega, by go_num, HB4, HO4⟩
        case measure => simp [intOf]; omega
    · obtain rfl : i = M := by omega
      have HE : Aside0 (ls = s.frames) := ⟨by rw [HLL.out, HV.out]⟩
      rcases HM.out.2.2.2 with h9 | ⟨h9, h10⟩
      · have hlt' : ¬ (i : Int) < (n : Int) := by omega
        clear hlt h9
        go_wp2_with fail
        go_ret
        have ho := HO.out
        rw [HE.out] at ho ⊢
        exact ⟨A3, c3, rfl, ho, HB.out⟩
      · have hlt' : (i : Int) < (n : Int) := by omega
        have hlt2 : ¬ (i : Int) < (s.win : Int) := by omega
        clear hlt h9 h10
        go_wp2_with fail
        go_ret
        have ho := HO.out
        rw [HE.out] at ho ⊢
        exact ⟨A3, c3, rfl, ho, HB.out⟩
theorem dframes_calls (w : World) (p : Nat) (s : Es) (F : Nat → Prop) (h : REnd w p s F) :
    Calls Try.prog 22 #[.pointer (some ⟨p, 0, none⟩)] w fun e w' => ∃ A c, e = .returned (.slice A s.frames.length c) ∧ FM w' w.heap.size (.slice A s.frames.length c) s.frames ∧ Below w.heap.size w w' := by
  by_cases h0 : s.q.length = 0
  · exact dframes_one w p s F h h0
  · exact dframes_more w p s F h h0
end Go.Proofs.Ytcpkfkcemaihfaa.Oct
