import Derived.Test.YtcpkfkcemaihfaaSessC
/- Rows of frames; Frames. -/
namespace Go.Proofs.Ytcpkfkcemaihfaa.M
theorem Es.frames_none {e : Es} (h : e.q.length = 0) : e.frames = [⟨e.ses, 0, e.exp, []⟩] := by unfold Es.frames; rw [if_pos h]
theorem Es.frames_some {e : Es} (h : e.q.length ≠ 0) : e.frames = (List.range (min e.q.length e.win)).map e.frame := by unfold Es.frames; rw [if_neg h]
end Go.Proofs.Ytcpkfkcemaihfaa.M
namespace Go.Proofs.Ytcpkfkcemaihfaa.Oct
open Go.RowKit Go.Proofs.YtcpkfkcemaihfaaW.PrintWords Go.Proofs.Ytcpkfkcemaihfaa.M
set_option linter.unusedVariables false
set_option linter.unusedSimpArgs false
theorem info_frame : (Try.prog.info? 42).map (fun i => (i.zero, i.size, i.bytes)) = some (some (.agg #[.int .u32 0, .int .i64 0, .int .i64 0, .slice none 0 0]), 4, 48) := by kernel_rfl
/-- frames in memory of the call's own -/
def FW (W : World) (base : Nat) (v : Value) (ls : List FR) : Prop := ∃ vs : List Value, OwnAt W base 42 4 v ls.length vs ∧ ∀ (j : Nat) (f : FR), ls[j]? = some f → vs[4 * j]? = some (.int .u32 f.s) ∧ vs[4 * j + 1]? = some (.int .i64 f.q) ∧ vs[4 * j + 2]? = some (.int .i64 f.k) ∧ ∃ u, vs[4 * j + 3]? = some u ∧ QB W base u f.d
theorem FW.nil (W : World) (base : Nat) : FW W base (.slice none 0 0) [] := ⟨[], OwnAt.nil _ _ _ _, fun j r h => by simp at h⟩
theorem FW.move {W W' : World} {base : Nat} {v : Value} {ls : List FR} (h : FW W base v ls) (hm : ∀ k, base ≤ k → k < W.heap.size → W'.heap[k]? = W.heap[k]?) : FW W' base v ls := by
  obtain ⟨vs, h1, h2⟩ := h
  refine ⟨vs, h1.move (fun k hk => hm k (h1.block hk).1 (h1.block hk).2), fun j f hj => ?_⟩
  obtain ⟨e1, e2, e3, u, e4, ho⟩ := h2 j f hj
  exact ⟨e1, e2, e3, u, e4, ho.move (fun k hk => hm k (ho.block hk).1 (ho.block hk).2)⟩
theorem FW.below {W W' : World} {base : Nat} {v : Value} {ls : List FR} (h : FW W base v ls) (hb : Below W.heap.size W W') : FW W' base v ls := h.move (fun k _ hk => hb.block k hk)
theorem FW.lower {W : World} {base base' : Nat} {v : Value} {ls : List FR} (h : FW W base v ls) (hb : base' ≤ base) : FW W base' v ls := by
  obtain ⟨vs, h1, h2⟩ := h
  refine ⟨vs, h1.lower hb, fun j f hj => ?_⟩
  obtain ⟨e1, e2, e3, u, e4, ho⟩ := h2 j f hj
  exact ⟨e1, e2, e3, u, e4, ho.lower hb⟩
theorem FW.form {W : World} {base : Nat} {v : Value} {ls : List FR} (h : FW W base v ls) : ∃ A c, v = .slice A ls.length c ∧ ls.length ≤ c ∧ ls.length ≤ 9223372036854775807 := by
  obtain ⟨vs, h1, _⟩ := h
  rcases h1.2 with ⟨e, h0⟩ | ⟨g, off, cap, cur, e, _, _, hc, hm, _⟩
  · exact ⟨none, 0, by rw [e, h0], by omega, by omega⟩
  · exact ⟨_, _, e, hc, by simp only [maxLen] at hm; omega⟩
theorem FW.base {W : World} {base : Nat} {v : Value} {ls : List FR} (h : FW W base v ls) {k : Nat} (hk : v.ownBlock = some k) : base ≤ k ∧ k < W.heap.size := by
  obtain ⟨vs, h1, _⟩ := h
  exact h1.block hk
/-- a frame of the row, where it lies -/
theorem FW.get {W : World} {base n c : Nat} {A : Option Addr} {ls : List FR} (h : FW W base (.slice A n c) ls) {j : Nat} {f : FR} (hj : ls[j]? = some f) :
    ∃ g off Au du, A = some ⟨g, off, none⟩ ∧ base ≤ g ∧ W.cell? ⟨g, off + 4 * j, none⟩ = some (.int .u32 f.s) ∧ W.cell? ⟨g, off + 4 * j + 1, none⟩ = some (.int .i64 f.q) ∧ W.cell? ⟨g, off + 4 * j + 2, none⟩ = some (.int .i64 f.k) ∧ W.cell? ⟨g, off + 4 * j + 3, none⟩ = some (.slice Au f.d.length du) ∧ QB W base (.slice Au f.d.length du) f.d := by
  obtain ⟨vs, h1, h2⟩ := h
  obtain ⟨e1, e2, e3, u, e4, ho⟩ := h2 j f hj
  obtain ⟨Au, du, rfl, _⟩ := ho.form
  have hl := (List.getElem?_eq_some_iff.1 hj).1
  rcases h1.2 with ⟨e, h0⟩ | ⟨g, off, cap, cur, e, hb, _⟩
  · omega
  injection e with ea en ec
  subst ea en ec
  have hc : ∀ i u, vs[i]? = some u → W.cell? ⟨g, off + i, none⟩ = some u := fun i u hu => by
    obtain ⟨ad, e, hc⟩ := OwnAt.cell h1 hu
    injection e with e
    rw [← e, Addr.add_lit] at hc
    exact hc
  exact ⟨g, off, Au, du, rfl, hb, hc _ _ e1, hc _ _ e2, hc _ _ e3, hc _ _ e4, ho⟩
theorem FW.add {W w1 : World} {base n : Nat} {vout v1 u : Value} {ls : List FR} {f : FR} {vs : List Value} (hn : n = ls.length) (e2 : OwnAt W base 42 4 vout n vs)
    (e3 : ∀ (j : Nat) (f : FR), ls[j]? = some f → vs[4 * j]? = some (.int .u32 f.s) ∧ vs[4 * j + 1]? = some (.int .i64 f.q) ∧ vs[4 * j + 2]? = some (.int .i64 f.k) ∧ ∃ u, vs[4 * j + 3]? = some u ∧ QB W base u f.d) (hq : QB W base u f.d)
    (ho1 : OwnAt w1 base 42 4 v1 (n + 1) (vs ++ [.int .u32 f.s, .int .i64 f.q, .int .i64 f.k, u])) (hg : W.grownBy w1 vout.ownBlock) : FW w1 base v1 (ls ++ [f]) := by
  subst hn
  have hmove : ∀ {u' : Value} {l' : List Int}, QB W base u' l' → QB w1 base u' l' := fun {u' l'} ho => ho.move (fun k hk => hg.block k (ho.block hk).2 (fun e => by
    obtain ⟨cur, hc⟩ := e2.type e.symm
    obtain ⟨cur2, hc2⟩ := OwnAt.type ho hk
    rw [hc] at hc2
    injection hc2 with hc2
    injection hc2 with _ hc2
    exact absurd hc2 (by decide)))
  have hl := e2.1
  refine ⟨vs ++ [.int .u32 f.s, .int .i64 f.q, .int .i64 f.k, u], by rw [List.length_append]; exact ho1, fun j q hj => ?_⟩
  rcases Nat.lt_or_ge j ls.length with h | h
  · rw [List.getElem?_append_left h] at hj
    obtain ⟨f1, f2, f3, u', f4, f5⟩ := e3 j q hj
    rw [List.getElem?_append_left (by omega), List.getElem?_append_left (by omega), List.getElem?_append_left (by omega), List.getElem?_append_left (by omega)]
    exact ⟨f1, f2, f3, u', f4, hmove f5⟩
  · have hjl : j = ls.length := by have := (List.getElem?_eq_some_iff.1 hj).1; simp at this; omega
    subst hjl
    rw [List.getElem?_append_right (Nat.le_refl _), Nat.sub_self] at hj
    obtain rfl : q = f := by simpa using hj.symm
    rw [List.getElem?_append_right (by omega), List.getElem?_append_right (by omega), List.getElem?_append_right (by omega), List.getElem?_append_right (by omega), show 4 * ls.length - vs.length = 0 by omega, show 4 * ls.length + 1 - vs.length = 1 by omega, show 4 * ls.length + 2 - vs.length = 2 by omega, show 4 * ls.length + 3 - vs.length = 3 by omega]
    exact ⟨rfl, rfl, rfl, u, rfl, hmove hq⟩
theorem four_news {W : World} {g : Nat} {x y z u : Value} {t : TypeId} (h : W.heap[g]? = some (.cells #[x, y, z, u] t (0, 0))) : ∀ j v, [x, y, z, u][j]? = some v → W.cell? ((⟨g, 0, none⟩ : Addr).add j) = some v := by
  obtain ⟨h0, h1, h2, h3⟩ := four_at h
  intro j v hj
  rw [Addr.add_lit, Nat.zero_add]
  match j, hj with
  | 0, hj => simp at hj; subst hj; exact h0
  | 1, hj => simp at hj; subst hj; exact h1
  | 2, hj => simp at hj; subst hj; exact h2
  | 3, hj => simp at hj; subst hj; exact h3
/-- one step of a region that draws: append(v, f) -/
theorem step_frame {ops : Array Oper} {o : Oper} {a : Act} {K : Act → World → Prop} {Q : Exit → Act → World → Prop} {E : Prop} {W : World} (base : Nat) (hgd : o.guard = none) (s x : Operand)
    (ho : o.op = .call { callee := .builtin .append, args := #[s, x], argTypes := #[32, 32] })
    (v : Value) (ls : List FR) (f : FR) (u : Value) (g : Nat) (hs : a.eval s = v) (hx : a.eval x = .slice (some ⟨g, 0, none⟩) 1 1) (HO : FW W base v ls) (hb : W.heap[g]? = some (.cells #[.int .u32 f.s, .int .i64 f.q, .int .i64 f.k, u] 42 (0, 0))) (HU : QB W base u f.d) (hbase : base ≤ W.heap.size) (hl : ls.length ≤ 1000000)
    (h : ∀ v1 w1, FW w1 base v1 (ls ++ [f]) → W.grownBy w1 v.ownBlock → (∀ k, v.ownBlock = some k → base ≤ k) → K (a.put o.dst v1) w1) :
    if Region.wanted o (yielded ops a.tmps) = true then Oper.wp Try.prog o a W K Q else E := by
  obtain ⟨vs, e2, e3⟩ := HO
  obtain ⟨i0, hi0, hz0, hz1, hz2⟩ := info_parts info_frame
  obtain ⟨Au, du, rfl, _⟩ := HU.form
  refine step_append_at W hgd s x 32 ho base 42 i0 _ 4 48 Try.underlying32 hi0 hz0 hz1 hz2 rfl (by decide) v ls.length vs hs e2 (some ⟨g, 0, none⟩) 1 1 [.int .u32 f.s, .int .i64 f.q, .int .i64 f.k, .slice Au f.d.length du] hx rfl (fun _ => ⟨_, rfl, four_news hb⟩) (by simp [Value.oneCell']) (by simp only [maxLen]; omega) (by omega) hbase ?_
  intro v1 w1 ho1 hg hn
  exact h v1 w1 (FW.add rfl e2 e3 HU ho1 hg) hg (fun k hk => (e2.block hk).1)
theorem eframes_one (w : World) (p : Nat) (s : Es) (F : Nat → Prop) (h : EndAt w p s F) (h0 : s.q.length = 0) :
    Calls Try.prog 14 #[.pointer (some ⟨p, 0, none⟩)] w fun e w' => ∃ A c, e = .returned (.slice A s.frames.length c) ∧ FW w' w.heap.size (.slice A s.frames.length c) s.frames ∧ Below w.heap.size w w' := by
  have HT := Aside0.mk h
  have HV := Aside0.mk (Es.frames_none h0)
  obtain ⟨A, d, hd, hh⟩ := h.cells
  rw [h0] at hh
  obtain ⟨⟨c0, c1, c2, c3, c4⟩, _⟩ := five_cells hh
  have HS : Aside0 (∀ W, Below w.heap.size w W → W.cell? ⟨p, 0, none⟩ = some (.int .u32 s.ses) ∧ W.cell? ⟨p, 4, none⟩ = some (.int .i64 s.exp)) := ⟨fun W hW => ⟨(hW.cell (World.block_lt_of_cell? _ _ c0)).trans c0, (hW.cell (World.block_lt_of_cell? _ _ c4)).trans c4⟩⟩
  clear h hh hd h0
  go_enter Try.func14, Try.ntmps14
  go_wp2_with fail
  refine (emade_calls _ p s F HT.out).mono ?_
  rintro e w1 ⟨rfl, rfl⟩
  have HBD : Aside0 (Below w1.heap.size w1 w1.drew) := ⟨below_drew (Below.refl _ _)⟩
  go_wp2_with fail
  go_region_held_law (fun W => W.cell? ⟨p, 0, none⟩ = some (.int .u32 s.ses) ∧ W.cell? ⟨p, 4, none⟩ = some (.int .i64 s.exp)) (exact HS.out _ (by first | exact (Aside0.out (by assumption)) | exact below_alloc (Aside0.out (by assumption)) _)) (fail)
  all_goals
    go_wp2_with fail
    go_ret
    rw [HV.out]
    refine ⟨_, _, rfl, ⟨[.int .u32 s.ses, .int .i64 0, .int .i64 s.exp, .slice none 0 0], ⟨rfl, .inr ⟨w1.heap.size, 0, 1, _, rfl, Nat.le_refl _, by exact heap_alloc_new w1.drew _, Nat.le_refl _, by simp [maxLen], by simp, by simp⟩⟩, fun j f hj => ?_⟩, below_alloc HBD.out _⟩
    have hj0 : j = 0 := by have := (List.getElem?_eq_some_iff.1 hj).1; simpa using this
    subst hj0
    obtain rfl : f = ⟨s.ses, 0, s.exp, []⟩ := by simpa using hj.symm
    exact ⟨rfl, rfl, rfl, _, rfl, QB.nil _ _⟩
end Go.Proofs.Ytcpkfkcemaihfaa.Oct
