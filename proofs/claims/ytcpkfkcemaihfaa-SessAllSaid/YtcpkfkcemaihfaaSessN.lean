import Derived.Test.YtcpkfkcemaihfaaSessL
/- The document's On. -/
namespace Go.Proofs.Ytcpkfkcemaihfaa.M
theorem Es.acked_eq (s : Es) (k : Int) {J : Nat} (hJ : J = (k - s.first).toNat) : s.acked k = { s with q := s.q.drop J, first := s.first + J } := by
  unfold Es.acked
  split
  · rename_i h
    rw [hJ, show s.first + (k - s.first).toNat = k.toNat by omega]
  · rename_i h
    have : J = 0 := by omega
    subst this
    rfl
end Go.Proofs.Ytcpkfkcemaihfaa.M
namespace Go.Proofs.Ytcpkfkcemaihfaa.Oct
open Go.RowKit Go.Proofs.YtcpkfkcemaihfaaW.PrintWords Go.Proofs.Ytcpkfkcemaihfaa.M
set_option linter.unusedVariables false
set_option linter.unusedSimpArgs false
theorem add_lit9 (a : Addr) (i j : Nat) : a.add (i + (j + 1)) = ⟨(a.add i).block, (a.add i).off + (j + 1), none⟩ := by
  rw [← Rd.addr_add_add]
  exact if_neg (Nat.succ_ne_zero j)
def RetDn (W : World) (p : Nat) (F : Nat → Prop) (r : Es × List Int × Int) (e : Ending) (W' : World) : Prop :=
  ∃ A d, e = .returned (.tuple #[.slice A r.2.1.length d, .int .i64 r.2.2]) ∧ OB W' W.heap.size (.slice A r.2.1.length d) r.2.1 ∧ REnd W' p r.1 (New W F) ∧ Kept W F W'
theorem retdn_nil {w wx : World} {p : Nat} {F : Nat → Prop} {s t : Es} {f : FR} {n : Int} (hv : s.on f = (t, [], n)) (h : REnd wx p t (New w F)) (hk : Kept w F wx) : RetDn w p F (s.on f) (.returned (.tuple #[.slice none 0 0, .int .i64 n])) wx := by
  rw [hv]
  exact ⟨none, 0, rfl, OB.nil _ _, h, hk⟩
theorem REnd.cells {W : World} {p : Nat} {e : Es} {F : Nat → Prop} (h : REnd W p e F) : ∃ A c, e.q.length ≤ c ∧ W.heap[p]? = some (.cells #[.int .u32 e.ses, .int .i64 e.win, .slice A e.q.length c, .int .i64 ((e.first + e.q.length : Nat) : Int), .int .i64 e.exp] 58 (0, 0)) := by
  obtain ⟨v, hh, hr, _⟩ := h
  obtain ⟨A, c, rfl, hc⟩ := hr.form
  exact ⟨A, c, hc, hh⟩
theorem dcame_close {wx : World} {p : Nat} {F : Nat → Prop} {t : Es} (h : REnd wx p t F) (hlt : t.exp < 65535) {n : Int} (hn : n = (t.exp : Int) + 1) : REnd (wx.setCell ⟨p, 4, none⟩ (.int .i64 n)) p { t with exp := t.exp + 1 } F := by
  obtain ⟨v, hh, ⟨vs, ho, hk, he⟩, hp, hok⟩ := h
  have hs := grown_set wx p 4 (.int .i64 n)
  obtain ⟨h1, h2, h3, h4, h5, h6⟩ := hok
  refine ⟨v, ?_, ⟨vs, ho.move (fun k e => hs.block k (ho.block e).2 (fun e2 => ?_)), hk, fun j l hj => ?_⟩, hp, h1, h2, h3, h4, h5, by show t.exp + 1 ≤ 65535; omega⟩
  · rw [heap_set _ hh, hn]
    dsimp only
    rw [show ((t.exp + 1 : Nat) : Int) = (t.exp : Int) + 1 by omega]
    rfl
  · injection e2 with e2
    exact ho.ne e hh (by decide) e2
  · obtain ⟨f1, u, f2, f3, f4⟩ := he j l hj
    exact ⟨f1, u, f2, f3.move (fun k e => hs.block k (f3.block e).2 (fun e2 => by injection e2 with e2; exact OwnAt.ne f3 e hh (by decide) e2)), f4⟩
/-- what the queue's cut leaves behind its store -/
theorem dacked_close {w w1 : World} {p : Nat} {s : Es} {F : Nat → Prop} {v v1 : Value} {vs : List Value} {k : Int} {J n : Nat} (hh : w.heap[p]? = some (.cells #[.int .u32 s.ses, .int .i64 s.win, v, .int .i64 ((s.first + s.q.length : Nat) : Int), .int .i64 s.exp] 58 (0, 0))) (ho : OwnAt w 0 69 2 v s.q.length vs)
    (he : ∀ (j : Nat) (l : List Int), s.q[j]? = some l → vs[2 * j]? = some (.int .i64 ((s.first : Int) + j)) ∧ ∃ u, vs[2 * j + 1]? = some u ∧ QB w 0 u l ∧ ∀ k, u.ownBlock = some k → F k) (hp : F p) (hok : s.ok) (hkl : k ≤ (s.first : Int) + s.q.length)
    (hb : Below w.heap.size w w1) (hJ : J = (k - s.first).toNat) (hn : n = s.q.length) (h1 : OwnAt w1 w.heap.size 69 2 v1 (n - J) (vs.drop (2 * J))) :
    REnd (w1.setCell ⟨p, 2, none⟩ v1) p (s.acked k) (New w F) ∧ Kept w F (w1.setCell ⟨p, 2, none⟩ v1) := by
  subst hn
  have hh1 := (hb.block p (Array.getElem?_eq_some_iff.1 hh).1).trans hh
  have hs := grown_set w1 p 2 v1
  have hokk := Es.acked_ok hok hkl
  rw [Es.acked_eq s k hJ] at hokk ⊢
  have hJl : J ≤ s.q.length := by omega
  refine ⟨⟨v1, ?_, ⟨vs.drop (2 * J), ?_, fun k e => .inr (h1.block e).1, fun j l hj => ?_⟩, .inl hp, hokk⟩, (Kept.of_below F hb).trans (Kept.of_grown (F := F) hs (fun k e => by injection e with e; subst e; exact hp)) (fun _ _ h => h)⟩
  · rw [heap_set _ hh1]
    dsimp only
    rw [List.length_drop, show s.first + J + (s.q.length - J) = s.first + s.q.length by omega]
    rfl
  · dsimp only
    rw [List.length_drop]
    refine (h1.lower (Nat.zero_le _)).move (fun k e => hs.block k (h1.block e).2 (fun e2 => ?_))
    injection e2 with e2
    exact h1.ne e hh1 (by decide) e2
  · have hj : (s.q.drop J)[j]? = some l := hj
    rw [List.getElem?_drop] at hj
    obtain ⟨f1, u, f2, f3, f4⟩ := he (J + j) l hj
    refine ⟨?_, u, ?_, ?_, fun k e => .inl (f4 k e)⟩
    · rw [List.getElem?_drop, show 2 * J + 2 * j = 2 * (J + j) by omega, f1]
      show some (Value.int _ _) = some (Value.int _ (((s.first + J : Nat) : Int) + j))
      rw [show (s.first : Int) + ((J + j : Nat) : Int) = ((s.first + J : Nat) : Int) + j by omega]
    · rw [List.getElem?_drop, show 2 * J + (2 * j + 1) = 2 * (J + j) + 1 by omega, f2]
    · have f3' : QB w1 0 u l := f3.move (fun k e => hb.block k (f3.block e).2)
      exact f3'.move (fun k e => hs.block k (f3'.block e).2 (fun e2 => by injection e2 with e2; exact OwnAt.ne f3' e hh1 (by decide) e2))
/-- append(v, item), the item in a block of its own -/
theorem app_item {o : Oper} {ops : Array Oper} {rest : List Oper} {Q : Exit → Act → World → Prop} {a : Act} {W : World} (base : Nat) (hgd : o.guard = none) (s x : Operand)
    (ho : o.op = .call { callee := .builtin .append, args := #[s, x], argTypes := #[56, 56] })
    (v : Value) (n g : Nat) (z : Int) (B : Option Addr) (m c : Nat) (vs : List Value) (hs : a.eval s = v) (hx : a.eval x = .slice (some ⟨g, 0, none⟩) 1 1) (e1 : OwnAt W base 69 2 v n vs) (hb : W.heap[g]? = some (.cells #[.int .i64 z, .slice B m c] 69 (0, 0))) (hl : n ≤ 1000000000) (hbase : base ≤ W.heap.size)
    (h : ∀ A1 c1 w1, OwnAt w1 base 69 2 (.slice A1 (n + 1) c1) (n + 1) (vs ++ [.int .i64 z, .slice B m c]) → W.grownBy w1 v.ownBlock → wpList Try.prog ops Q rest (a.put o.dst (.slice A1 (n + 1) c1)) w1) :
    wpList Try.prog ops Q (o :: rest) a W := by
  obtain ⟨i0, hi0, hz0, hz1, hz2⟩ := info_parts info_item
  refine wpList_append_at W hgd s x 56 ho base 69 i0 (.agg #[.int .i64 0, .slice none 0 0]) 2 32 Try.underlying56 hi0 hz0 hz1 hz2 rfl (by decide) v n vs hs e1 (some ⟨g, 0, none⟩) 1 1 [.int .i64 z, .slice B m c] hx rfl (fun _ => ⟨_, rfl, fun j u' hu' => ?_⟩) (fun u' hu' => ?_) (by simp only [maxLen]; omega) (by omega) hbase ?_
  · have x0 : W.cell? ⟨g, 0, none⟩ = some (.int .i64 z) := by simp [World.cell?, hb]
    have x1 : W.cell? ⟨g, 1, none⟩ = some (.slice B m c) := by simp [World.cell?, hb]
    match j, hu' with
    | 0, hu' => simp at hu'; subst hu'; simpa [Addr.add] using x0
    | 1, hu' => simp at hu'; subst hu'; simpa [Addr.add] using x1
  · rcases List.mem_cons.1 hu' with rfl | hu'
    · rfl
    · obtain rfl := List.mem_singleton.1 hu'
      rfl
  · intro v1 w1 ho1 hg _
    obtain ⟨A1, c1, rfl, _⟩ := own_form ho1
    exact h A1 c1 w1 ho1 hg
/-- a member of the queue, where it lies -/
theorem item_get {W : World} {F : Nat → Prop} {v : Value} {first : Nat} {q : List (List Int)} {vs : List Value} (ho : OwnAt W 0 69 2 v q.length vs) (he : ∀ (j : Nat) (l : List Int), q[j]? = some l → vs[2 * j]? = some (.int .i64 ((first : Int) + j)) ∧ ∃ u, vs[2 * j + 1]? = some u ∧ QB W 0 u l ∧ ∀ k, u.ownBlock = some k → F k) {k : Nat} (hk : k < q.length) :
    ∃ ad d B m c, v = .slice (some ad) q.length d ∧ W.cell? (ad.add (k * 2)) = some (.int .i64 ((first : Int) + k)) ∧ W.cell? ⟨(ad.add (k * 2)).block, (ad.add (k * 2)).off + 1, none⟩ = some (.slice B m c) ∧ vs.take (2 * (k + 1)) = vs.take (2 * k) ++ [.int .i64 ((first : Int) + k), .slice B m c] ∧ m = (q.getD k []).length ∧ Kd.C (Kd.int .u8) W B (q.getD k []).length (q.getD k []) := by
  have hbk : q[k]? = some (q.getD k []) := by rw [List.getD_eq_getElem?_getD, List.getElem?_eq_getElem hk]; rfl
  obtain ⟨f1, u, f2, f3, _⟩ := he k _ hbk
  obtain ⟨B, c, rfl, _, _, hC⟩ := f3.form
  obtain ⟨A, d, rfl, _⟩ := own_form ho
  obtain ⟨ad, rfl, k0⟩ := OwnAt.cell ho f1
  obtain ⟨ad', e', k1⟩ := OwnAt.cell ho f2
  injection e' with e'
  subst e'
  rw [Nat.mul_comm] at k0
  rw [Nat.mul_comm 2 k, add_lit9] at k1
  refine ⟨ad, d, B, _, c, rfl, k0, k1, ?_, rfl, hC⟩
  rw [show 2 * (k + 1) = 2 * k + 1 + 1 by omega, List.take_add_one, List.take_add_one, f1, f2]
  simp
end Go.Proofs.Ytcpkfkcemaihfaa.Oct
