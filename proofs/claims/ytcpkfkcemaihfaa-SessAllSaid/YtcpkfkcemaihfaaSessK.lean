import Derived.Test.YtcpkfkcemaihfaaSessJ
/- The document's end in memory; New, Put. -/
namespace Go.Proofs.Ytcpkfkcemaihfaa.Oct
open Go.RowKit Go.Proofs.YtcpkfkcemaihfaaW.PrintWords Go.Proofs.Ytcpkfkcemaihfaa.M
set_option linter.unusedVariables false
set_option linter.unusedSimpArgs false
theorem info_item : (Try.prog.info? 69).map (fun i => (i.zero, i.size, i.bytes)) = some (some (.agg #[.int .i64 0, .slice none 0 0]), 2, 32) := by kernel_rfl
/-- the members of a queue with their numbers, the first one's at 'first', in blocks that F lets -/
def IRow (W : World) (F : Nat → Prop) (v : Value) (first : Nat) (q : List (List Int)) : Prop := ∃ vs : List Value, OwnAt W 0 69 2 v q.length vs ∧ (∀ k, v.ownBlock = some k → F k) ∧
  ∀ (j : Nat) (l : List Int), q[j]? = some l → vs[2 * j]? = some (.int .i64 ((first : Int) + j)) ∧ ∃ u, vs[2 * j + 1]? = some u ∧ QB W 0 u l ∧ ∀ k, u.ownBlock = some k → F k
theorem IRow.step {W W' : World} {F : Nat → Prop} {v : Value} {first : Nat} {q : List (List Int)} (h : IRow W F v first q) (hb : ∀ k, F k → k < W.heap.size → W'.heap[k]? = W.heap[k]?) : IRow W' F v first q := by
  obtain ⟨vs, h1, h2, h3⟩ := h
  refine ⟨vs, h1.move (fun k e => hb k (h2 k e) (h1.block e).2), h2, fun j r hj => ?_⟩
  obtain ⟨e1, u, e2, hq, hu⟩ := h3 j r hj
  exact ⟨e1, u, e2, hq.move (fun k e => hb k (hu k e) (hq.block e).2), hu⟩
theorem IRow.mono {W : World} {F G : Nat → Prop} {v : Value} {first : Nat} {q : List (List Int)} (h : IRow W F v first q) (hg : ∀ k, F k → k < W.heap.size → G k) : IRow W G v first q := by
  obtain ⟨vs, h1, h2, h3⟩ := h
  refine ⟨vs, h1, fun k e => hg k (h2 k e) (h1.block e).2, fun j r hj => ?_⟩
  obtain ⟨e1, u, e2, hq, hb⟩ := h3 j r hj
  exact ⟨e1, u, e2, hq, fun k e => hg k (hb k e) (hq.block e).2⟩
theorem own_form {W : World} {b : Nat} {e : TypeId} {s : Nat} {v : Value} {n : Nat} {xs : List Value} (h : OwnAt W b e s v n xs) : ∃ A c, v = .slice A n c ∧ n ≤ c := by
  rcases h.2 with ⟨e, h0⟩ | ⟨g, off, cap, cur, e, _, _, hc, _⟩
  · exact ⟨none, 0, by rw [e, h0], by omega⟩
  · exact ⟨_, _, e, hc⟩
theorem IRow.form {W : World} {F : Nat → Prop} {v : Value} {first : Nat} {q : List (List Int)} (h : IRow W F v first q) : ∃ A c, v = .slice A q.length c ∧ q.length ≤ c := by
  obtain ⟨vs, h1, _⟩ := h
  exact own_form h1
/-- the document's end -/
def REnd (W : World) (p : Nat) (e : Es) (F : Nat → Prop) : Prop :=
  ∃ v, W.heap[p]? = some (.cells #[.int .u32 e.ses, .int .i64 e.win, v, .int .i64 ((e.first + e.q.length : Nat) : Int), .int .i64 e.exp] 58 (0, 0)) ∧ IRow W F v e.first e.q ∧ F p ∧ e.ok
theorem REnd.step {W W' : World} {p : Nat} {e : Es} {F : Nat → Prop} (h : REnd W p e F) (hb : ∀ k, F k → k < W.heap.size → W'.heap[k]? = W.heap[k]?) : REnd W' p e F := by
  obtain ⟨v, hh, hr, hp, hok⟩ := h
  exact ⟨v, (hb p hp (Array.getElem?_eq_some_iff.1 hh).1).trans hh, hr.step hb, hp, hok⟩
theorem REnd.below {W W' : World} {p : Nat} {e : Es} {F : Nat → Prop} (h : REnd W p e F) (hb : Below W.heap.size W W') : REnd W' p e F := h.step (fun k _ hk => hb.block k hk)
theorem REnd.mono {W : World} {p : Nat} {e : Es} {F G : Nat → Prop} (h : REnd W p e F) (hg : ∀ k, F k → k < W.heap.size → G k) : REnd W p e G := by
  obtain ⟨v, hh, hr, hp, hok⟩ := h
  exact ⟨v, hh, hr.mono hg, hg p hp (Array.getElem?_eq_some_iff.1 hh).1, hok⟩
theorem REnd.is {W : World} {p : Nat} {e : Es} {F : Nat → Prop} (h : REnd W p e F) : p < W.heap.size ∧ F p ∧ e.ok := by
  obtain ⟨v, hh, _, hp, hok⟩ := h
  exact ⟨(Array.getElem?_eq_some_iff.1 hh).1, hp, hok⟩
def RetD (W : World) (p : Nat) (F : Nat → Prop) (s : Es) (n : Int) (e : Ending) (W' : World) : Prop := e = .returned (.int .i64 n) ∧ REnd W' p s (New W F) ∧ Kept W F W'
theorem retd_same {w w' : World} {p : Nat} {F : Nat → Prop} {s : Es} {n : Int} (h : REnd w p s F) (hb : Below w.heap.size w w') : RetD w p F s n (.returned (.int .i64 n)) w' :=
  ⟨rfl, (h.below hb).mono (fun k hk _ => .inl hk), Kept.of_below _ hb⟩
theorem dnew_bad (w : World) (s n : Int) (h : s = 0 ∨ n < 1 ∨ 16 < n) : Calls Try.prog 17 #[.int .u32 s, .int .i64 n] w fun e w' => e = .returned (.tuple #[.pointer none, .int .i64 1]) ∧ w' = w := by
  have hc : s = 0 ∨ (s ≠ 0 ∧ n < 1) ∨ (s ≠ 0 ∧ ¬ n < 1 ∧ 16 < n) := by omega
  rcases hc with h | ⟨h, h1⟩ | ⟨h, h1, h2⟩
  · have b0 : (s == 0) = true := by simpa using h
    clear h
    go_enter Try.func17, Try.ntmps17
    go_wp2
    go_ret2
    exact ⟨rfl, rfl⟩
  · have b0 : (s == 0) = false := by simpa using h
    clear h
    go_enter Try.func17, Try.ntmps17
    go_wp2
    go_ret2
    exact ⟨rfl, rfl⟩
  · have b0 : (s == 0) = false := by simpa using h
    clear h
    go_enter Try.func17, Try.ntmps17
    go_wp2
    go_ret2
    exact ⟨rfl, rfl⟩
theorem dnew_good (w : World) (s : Int) (n : Nat) (hs : 1 ≤ s ∧ s < 4294967296) (hn : 1 ≤ n ∧ n ≤ 16) : Calls Try.prog 17 #[.int .u32 s, .int .i64 n] w fun e w' => e = .returned (.tuple #[.pointer (some ⟨w.heap.size, 0, none⟩), .int .i64 0]) ∧ REnd w' w.heap.size (newE s n) (fun k => w.heap.size ≤ k) ∧ Below w.heap.size w w' := by
  have b0 : (s == 0) = false := by simp; omega
  have b1 : ¬ (n : Int) < 1 := by omega
  have b2 : ¬ 16 < (n : Int) := by omega
  have HOK := Aside0.mk (newE_ok hs hn)
  clear hs hn
  go_enter Try.func17, Try.ntmps17
  go_wp2
  go_ret2
  exact ⟨rfl, ⟨.slice none 0 0, heap_alloc_new w _, ⟨[], OwnAt.nil _ _ _ _, fun k e => (nomatch e), fun j l h => by simp [newE] at h⟩, Nat.le_refl _, HOK.out⟩, below_alloc (Below.refl _ _) _⟩
/-- what Put leaves behind its stores -/
theorem dput_close {w wc w1 : World} {p : Nat} {s : Es} {F : Nat → Prop} {v u v1 : Value} {vs : List Value} {ys : List Int} {x : Int} (hh : w.heap[p]? = some (.cells #[.int .u32 s.ses, .int .i64 s.win, v, .int .i64 ((s.first + s.q.length : Nat) : Int), .int .i64 s.exp] 58 (0, 0))) (ho : OwnAt w 0 69 2 v s.q.length vs) (hk : ∀ k, v.ownBlock = some k → F k)
    (he : ∀ (j : Nat) (l : List Int), s.q[j]? = some l → vs[2 * j]? = some (.int .i64 ((s.first : Int) + j)) ∧ ∃ u, vs[2 * j + 1]? = some u ∧ QB w 0 u l ∧ ∀ k, u.ownBlock = some k → F k) (hp : F p) (hok : Es.ok { s with q := s.q ++ [ys] })
    (hb : Below w.heap.size w wc) (hcu : OB wc w.heap.size u ys) (h1 : OwnAt w1 0 69 2 v1 (s.q.length + 1) (vs ++ [.int .i64 ((s.first + s.q.length : Nat) : Int), u])) (hg : wc.grownBy w1 v.ownBlock) (hn : v1.ownBlock = v.ownBlock ∨ ∃ b, v1.ownBlock = some b ∧ wc.heap.size ≤ b) (hx : x = ((s.first + s.q.length : Nat) : Int) + 1) :
    RetD w p F { s with q := s.q ++ [ys] } 0 (.returned (.int .i64 0)) ((w1.setCell ⟨p, 2, none⟩ v1).setCell ⟨p, 3, none⟩ (.int .i64 x)) := by
  have hpl : p < w.heap.size := (Array.getElem?_eq_some_iff.1 hh).1
  have hhc := (hb.block p hpl).trans hh
  have hne : ∀ k, v.ownBlock = some k → k ≠ p := fun k e => ho.ne e hh (by decide)
  have hh1 : w1.heap[p]? = some (.cells #[.int .u32 s.ses, .int .i64 s.win, v, .int .i64 ((s.first + s.q.length : Nat) : Int), .int .i64 s.exp] 58 (0, 0)) := (hg.block p (Nat.lt_of_lt_of_le hpl hb.size) (fun e => hne p e.symm rfl)).trans hhc
  have hs : w1.grownBy ((w1.setCell ⟨p, 2, none⟩ v1).setCell ⟨p, 3, none⟩ (.int .i64 x)) (some p) := World.grownBy.trans (grown_set w1 p 2 v1) (grown_set _ p 3 _)
  obtain ⟨w3, hw3⟩ : ∃ w3, w3 = (w1.setCell ⟨p, 2, none⟩ v1).setCell ⟨p, 3, none⟩ (.int .i64 x) := ⟨_, rfl⟩
  have hh3 : w3.heap[p]? = some (.cells #[.int .u32 s.ses, .int .i64 s.win, v1, .int .i64 x, .int .i64 s.exp] 58 (0, 0)) := by rw [hw3]; exact heap_set _ (heap_set v1 hh1)
  rw [← hw3] at hs ⊢
  have hmv : ∀ x l, QB wc 0 x l → ∀ k, x.ownBlock = some k → w3.heap[k]? = wc.heap[k]? := fun x l hq k e => by
    have hkl := (hq.block e).2
    have hkp : k ≠ p := OwnAt.ne hq e hhc (by decide)
    have hkv : some k ≠ v.ownBlock := fun e2 => by
      obtain ⟨cur, hc⟩ := (ho.move (fun k e => hb.block k (ho.block e).2)).type e2.symm
      obtain ⟨cur2, hc2⟩ := OwnAt.type hq e
      rw [hc] at hc2
      injection hc2 with hc2
      injection hc2 with _ hc2
      exact absurd hc2 (by decide)
    exact (hs.block k (Nat.lt_of_lt_of_le hkl hg.size) (fun e => hkp (by injection e))).trans (hg.block k hkl hkv)
  have hqu : QB wc 0 u ys := (QB.of_OB hcu).lower (Nat.zero_le _)
  have hvl : vs.length = s.q.length * 2 := ho.1
  refine ⟨rfl, ⟨v1, ?_, ⟨vs ++ [.int .i64 ((s.first + s.q.length : Nat) : Int), u], ?_, ?_, ?_⟩, .inl hp, hok⟩, ?_⟩
  · rw [hh3, hx]
    show _ = some (Obj.cells #[_, _, _, .int .i64 ((s.first + (s.q ++ [ys]).length : Nat) : Int), _] _ _)
    rw [List.length_append]
    rfl
  · show OwnAt _ 0 69 2 v1 (s.q ++ [ys]).length _
    rw [List.length_append]
    refine h1.move (fun k e => hs.block k (h1.block e).2 (fun e2 => ?_))
    injection e2 with e2
    exact h1.ne e hh1 (by decide) e2
  · intro k e
    rcases hn with h | ⟨b, h, hb'⟩
    · rw [h] at e; exact .inl (hk k e)
    · rw [h] at e
      injection e with e
      subst e
      exact .inr (Nat.le_trans hb.size hb')
  · intro j l hj
    have hj : (s.q ++ [ys])[j]? = some l := hj
    show (vs ++ _)[2 * j]? = some (.int .i64 ((s.first : Int) + j)) ∧ _
    rcases Nat.lt_or_ge j s.q.length with h | h
    · rw [List.getElem?_append_left h] at hj
      obtain ⟨f1, u', f2, f3, f4⟩ := he j l hj
      rw [List.getElem?_append_left (by omega), List.getElem?_append_left (by omega)]
      have f3' : QB wc 0 u' l := f3.move (fun k e => hb.block k (f3.block e).2)
      exact ⟨f1, u', f2, f3'.move (hmv u' l f3'), fun k e => .inl (f4 k e)⟩
    · have hjl : j = s.q.length := by have := (List.getElem?_eq_some_iff.1 hj).1; simp at this; omega
      subst hjl
      rw [List.getElem?_append_right (Nat.le_refl _), Nat.sub_self] at hj
      obtain rfl : l = ys := by simpa using hj.symm
      rw [List.getElem?_append_right (by omega), List.getElem?_append_right (by omega), show 2 * s.q.length - vs.length = 0 by omega, show 2 * s.q.length + 1 - vs.length = 1 by omega]
      exact ⟨by simp, u, rfl, hqu.move (hmv u l hqu), fun k e => .inr (own_base hcu k e)⟩
  · refine ((Kept.of_below F hb).trans (Kept.of_grown (F := F) hg hk) (fun _ _ h => h)).trans (Kept.of_grown (F := F) hs (fun k e => by injection e with e; subst e; exact hp)) (fun _ _ h => h)
end Go.Proofs.Ytcpkfkcemaihfaa.Oct
