import Derived.Test.YtcpkfkcemaihfaaSessM
import Derived.Test.YtcpkfkcemaihfaaBagA
/- An end of a session in memory; New, made, Waiting, Came. -/
namespace Go.Proofs.Ytcpkfkcemaihfaa.Oct
open Go.RowKit Go.Proofs.YtcpkfkcemaihfaaW.PrintWords Go.Proofs.Ytcpkfkcemaihfaa.M
set_option linter.unusedVariables false
set_option linter.unusedSimpArgs false
theorem five_cells {W : World} {b : Nat} {x y z u v : Value} {t : TypeId} (h : W.heap[b]? = some (.cells #[x, y, z, u, v] t (0, 0))) :
    (W.cell? ⟨b, 0, none⟩ = some x ∧ W.cell? ⟨b, 1, none⟩ = some y ∧ W.cell? ⟨b, 2, none⟩ = some z ∧ W.cell? ⟨b, 3, none⟩ = some u ∧ W.cell? ⟨b, 4, none⟩ = some v) ∧
    W.frozen? ⟨b, 0, none⟩ = false ∧ W.frozen? ⟨b, 1, none⟩ = false ∧ W.frozen? ⟨b, 2, none⟩ = false ∧ W.frozen? ⟨b, 3, none⟩ = false ∧ W.frozen? ⟨b, 4, none⟩ = false := by
  refine ⟨⟨?_, ?_, ?_, ?_, ?_⟩, ?_, ?_, ?_, ?_, ?_⟩ <;> simp [World.cell?, World.frozen?, h]
def EndAt (W : World) (p : Nat) (e : Es) (F : Nat → Prop) : Prop :=
  ∃ v vs, W.heap[p]? = some (.cells #[.int .u32 e.ses, .int .i64 e.win, v, .int .i64 e.first, .int .i64 e.exp] 61 (0, 0)) ∧ OwnAt W 0 38 1 v e.q.length vs ∧ Tls W vs e.q ∧ F p ∧ (∀ k, v.ownBlock = some k → F k) ∧ (∀ u ∈ vs, ∀ k, u.ownBlock = some k → F k) ∧ e.ok
theorem EndAt.step {W W' : World} {p : Nat} {e : Es} {F : Nat → Prop} (h : EndAt W p e F) (hb : ∀ k, F k → k < W.heap.size → W'.heap[k]? = W.heap[k]?) : EndAt W' p e F := by
  obtain ⟨v, vs, hh, ho, he, hp, hk, hu, hok⟩ := h
  refine ⟨v, vs, (hb p hp (Array.getElem?_eq_some_iff.1 hh).1).trans hh, ho.move (fun k e => hb k (hk k e) (ho.block e).2), he.move (fun u hm k e => ?_), hp, hk, hu, hok⟩
  obtain ⟨l, hq⟩ := he.mem hm
  exact hb k (hu u hm k e) (hq.block e).2
theorem EndAt.below {W W' : World} {p : Nat} {e : Es} {F : Nat → Prop} (h : EndAt W p e F) (hb : Below W.heap.size W W') : EndAt W' p e F := h.step (fun k _ hk => hb.block k hk)
theorem EndAt.mono {W : World} {p : Nat} {e : Es} {F G : Nat → Prop} (h : EndAt W p e F) (hg : ∀ k, F k → k < W.heap.size → G k) : EndAt W p e G := by
  obtain ⟨v, vs, hh, ho, he, hp, hk, hu, hok⟩ := h
  refine ⟨v, vs, hh, ho, he, hg p hp (Array.getElem?_eq_some_iff.1 hh).1, fun k e => hg k (hk k e) (ho.block e).2, fun u hm k e => ?_, hok⟩
  obtain ⟨l, hq⟩ := he.mem hm
  exact hg k (hu u hm k e) (hq.block e).2
theorem EndAt.is {W : World} {p : Nat} {e : Es} {F : Nat → Prop} (h : EndAt W p e F) : p < W.heap.size ∧ F p ∧ e.ok := by
  obtain ⟨v, vs, hh, _, _, hp, _, _, hok⟩ := h
  exact ⟨(Array.getElem?_eq_some_iff.1 hh).1, hp, hok⟩
theorem EndAt.cells {W : World} {p : Nat} {e : Es} {F : Nat → Prop} (h : EndAt W p e F) : ∃ A c, e.q.length ≤ c ∧ W.heap[p]? = some (.cells #[.int .u32 e.ses, .int .i64 e.win, .slice A e.q.length c, .int .i64 e.first, .int .i64 e.exp] 61 (0, 0)) := by
  obtain ⟨v, vs, hh, ho, _⟩ := h
  obtain ⟨A, c, rfl, hc, _⟩ := ho.form
  exact ⟨A, c, hc, hh⟩
/-- a member of the queue, where it lies -/
theorem EndAt.get {W : World} {p : Nat} {e : Es} {F : Nat → Prop} (h : EndAt W p e F) {k : Nat} (hk : k < e.q.length) :
    ∃ g off d Au du, W.cell? ⟨p, 2, none⟩ = some (.slice (some ⟨g, off, none⟩) e.q.length d) ∧ W.cell? ⟨g, off + k, none⟩ = some (.slice Au (e.q.getD k []).length du) ∧ Kd.C (Kd.int .u8) W Au (e.q.getD k []).length (e.q.getD k []) := by
  obtain ⟨v, vs, hh, ho, he, hp, hkf, hu, hok⟩ := h
  have hbk : e.q[k]? = some (e.q.getD k []) := by rw [List.getD_eq_getElem?_getD, List.getElem?_eq_getElem hk]; rfl
  have hkv : k < vs.length := by have := he.len; omega
  have hvk := List.getElem?_eq_getElem hkv
  obtain ⟨Au, du, hu1, _, _, hC⟩ := (he.own k _ _ hvk hbk).form
  rcases ho.2 with ⟨_, h0⟩ | ⟨g, off, cap, cur, rfl, _, _, hc, _⟩
  · omega
  · exact ⟨g, off, cap, Au, du, (five_cells hh).1.2.2.1, by rw [← hu1]; exact ho.at hvk, hC⟩
def RetE (W : World) (p : Nat) (F : Nat → Prop) (s : Es) (n : Int) (e : Ending) (W' : World) : Prop := e = .returned (.int .i64 n) ∧ EndAt W' p s (New W F) ∧ Kept W F W'
theorem rete_same {w w' : World} {p : Nat} {F : Nat → Prop} {s : Es} {n : Int} (h : EndAt w p s F) (hb : Below w.heap.size w w') : RetE w p F s n (.returned (.int .i64 n)) w' :=
  ⟨rfl, (h.below hb).mono (fun k hk _ => .inl hk), Kept.of_below _ hb⟩
theorem enew_bad (w : World) (s n : Int) (h : s = 0 ∨ n < 1 ∨ 16 < n) : Calls Try.prog 16 #[.int .u32 s, .int .i64 n] w fun e w' => e = .returned (.tuple #[.pointer none, .int .i64 1]) ∧ w' = w := by
  have hc : s = 0 ∨ (s ≠ 0 ∧ n < 1) ∨ (s ≠ 0 ∧ ¬ n < 1 ∧ 16 < n) := by omega
  rcases hc with h | ⟨h, h1⟩ | ⟨h, h1, h2⟩
  · have b0 : (s == 0) = true := by simpa using h
    clear h
    go_enter Try.func16, Try.ntmps16
    go_wp2
    go_ret2
    exact ⟨rfl, rfl⟩
  · have b0 : (s == 0) = false := by simpa using h
    clear h
    go_enter Try.func16, Try.ntmps16
    go_wp2
    go_ret2
    exact ⟨rfl, rfl⟩
  · have b0 : (s == 0) = false := by simpa using h
    clear h
    go_enter Try.func16, Try.ntmps16
    go_wp2
    go_ret2
    exact ⟨rfl, rfl⟩
theorem enew_good (w : World) (s : Int) (n : Nat) (hs : 1 ≤ s ∧ s < 4294967296) (hn : 1 ≤ n ∧ n ≤ 16) : Calls Try.prog 16 #[.int .u32 s, .int .i64 n] w fun e w' => e = .returned (.tuple #[.pointer (some ⟨w.heap.size, 0, none⟩), .int .i64 0]) ∧ EndAt w' w.heap.size (newE s n) (fun k => k = w.heap.size) ∧ Below w.heap.size w w' := by
  have HOK := Aside0.mk (newE_ok hs hn)
  have b0 : (s == 0) = false := by simp; omega
  have b1 : ¬ (n : Int) < 1 := by omega
  have b2 : ¬ (16 : Int) < (n : Int) := by omega
  clear hs hn
  go_enter Try.func16, Try.ntmps16
  go_wp2
  go_ret2
  exact ⟨rfl, ⟨_, [], heap_alloc_new w _, OwnAt.nil _ _ _ _, Tls.nil _, rfl, fun k h => (nomatch h), fun u h => (nomatch h), HOK.out⟩, below_alloc (Below.refl _ _) _⟩
theorem emade_calls (w : World) (p : Nat) (s : Es) (F : Nat → Prop) (h : EndAt w p s F) : Calls Try.prog 27 #[.pointer (some ⟨p, 0, none⟩)] w fun e w' => e = .returned (.bool true) ∧ w' = w := by
  obtain ⟨A, c, hc, hh⟩ := h.cells
  obtain ⟨⟨c0, _, _, _, _⟩, _⟩ := five_cells hh
  have hs : decide (0 < s.ses) = true := by have := h.is.2.2.1; simp; omega
  clear h hh
  go_enter Try.func27, Try.ntmps27
  go_wp2
  go_ret
  exact ⟨by first | rw [hs] | rfl, rfl⟩
theorem ewaiting_calls (w : World) (p : Nat) (s : Es) (F : Nat → Prop) (h : EndAt w p s F) : Calls Try.prog 15 #[.pointer (some ⟨p, 0, none⟩)] w fun e w' => e = .returned (.int .i64 s.q.length) ∧ w' = w := by
  have HT := Aside0.mk h
  obtain ⟨A, c, hc, hh⟩ := h.cells
  obtain ⟨⟨_, _, c2, _, _⟩, _⟩ := five_cells hh
  clear h hh
  go_enter Try.func15, Try.ntmps15
  go_wp2_with fail
  refine (emade_calls _ p s F HT.out).mono ?_
  rintro e w1 ⟨rfl, rfl⟩
  go_wp2_with fail
  go_ret
  exact ⟨rfl, rfl⟩
theorem ecame_calls (w : World) (p : Nat) (s : Es) (F : Nat → Prop) (h : EndAt w p s F) : Calls Try.prog 23 #[.pointer (some ⟨p, 0, none⟩)] w fun e w' => e = .returned (.int .i64 s.exp) ∧ w' = w := by
  have HT := Aside0.mk h
  obtain ⟨A, c, hc, hh⟩ := h.cells
  obtain ⟨⟨_, _, _, _, c4⟩, _⟩ := five_cells hh
  clear h hh
  go_enter Try.func23, Try.ntmps23
  go_wp2_with fail
  refine (emade_calls _ p s F HT.out).mono ?_
  rintro e w1 ⟨rfl, rfl⟩
  go_wp2_with fail
  go_ret
  exact ⟨rfl, rfl⟩
/-! an end that is nil, or that no call made -/
def NoEnd (w : World) (v : Value) : Prop := v = .pointer none ∨ ∃ b, v = .pointer (some ⟨b, 0, none⟩) ∧ w.heap[b]? = some (.cells #[.int .u32 0, .int .i64 0, .slice none 0 0, .int .i64 0, .int .i64 0] 61 (0, 0))
theorem NoEnd.below {w w' : World} {v : Value} (h : NoEnd w v) (hb : Below w.heap.size w w') : NoEnd w' v := h.imp id (fun ⟨b, e, hh⟩ => ⟨b, e, blk_keep hh hb⟩)
theorem emade_no (w : World) (v : Value) (h : NoEnd w v) : Calls Try.prog 27 #[v] w fun e w' => e = .returned (.bool false) ∧ w' = w := by
  rcases h with rfl | ⟨b, rfl, hb⟩
  · go_enter Try.func27, Try.ntmps27
    go_wp2
    go_ret
    exact ⟨rfl, rfl⟩
  · obtain ⟨⟨c0, _, _, _, _⟩, _⟩ := five_cells hb
    clear hb
    go_enter Try.func27, Try.ntmps27
    go_wp2
    go_ret
    exact ⟨rfl, rfl⟩
theorem eput_no (w : World) (v l : Value) (h : NoEnd w v) : Calls Try.prog 12 #[v, l] w fun e w' => e = .returned (.int .i64 6) ∧ w' = w := by
  have HN := Aside0.mk h
  clear h
  go_enter Try.func12, Try.ntmps12
  go_wp2_with (go_at_call 27; refine (emade_no _ _ HN.out).mono ?_; rintro e w' ⟨rfl, hw'⟩; have hw' := hw'.symm; subst hw')
  go_ret
  exact ⟨rfl, rfl⟩
theorem eframes_no (w : World) (v : Value) (h : NoEnd w v) : Calls Try.prog 14 #[v] w fun e w' => e = .returned (.slice none 0 0) ∧ w' = w := by
  have HN := Aside0.mk h
  clear h
  go_enter Try.func14, Try.ntmps14
  go_wp2_with (go_at_call 27; refine (emade_no _ _ HN.out).mono ?_; rintro e w' ⟨rfl, hw'⟩; have hw' := hw'.symm; subst hw')
  go_ret
  exact ⟨rfl, rfl⟩
theorem ewaiting_no (w : World) (v : Value) (h : NoEnd w v) : Calls Try.prog 15 #[v] w fun e w' => e = .returned (.int .i64 0) ∧ w' = w := by
  have HN := Aside0.mk h
  clear h
  go_enter Try.func15, Try.ntmps15
  go_wp2_with (go_at_call 27; refine (emade_no _ _ HN.out).mono ?_; rintro e w' ⟨rfl, hw'⟩; have hw' := hw'.symm; subst hw')
  go_ret
  exact ⟨rfl, rfl⟩
theorem ecame_no (w : World) (v : Value) (h : NoEnd w v) : Calls Try.prog 23 #[v] w fun e w' => e = .returned (.int .i64 0) ∧ w' = w := by
  have HN := Aside0.mk h
  clear h
  go_enter Try.func23, Try.ntmps23
  go_wp2_with (go_at_call 27; refine (emade_no _ _ HN.out).mono ?_; rintro e w' ⟨rfl, hw'⟩; have hw' := hw'.symm; subst hw')
  go_ret
  exact ⟨rfl, rfl⟩
theorem eon_no (w : World) (v : Value) (s q k : Int) (B : Option Addr) (n c : Nat) (h : NoEnd w v) : Calls Try.prog 13 #[v, .agg #[.int .u32 s, .int .i64 q, .int .i64 k, .slice B n c]] w fun e w' => e = .returned (.tuple #[.slice none 0 0, .int .i64 6]) ∧ Below w.heap.size w w' := by
  have HB0 : Aside0 (Below w.heap.size w (w.alloc (.cells #[.int .u32 s, .int .i64 q, .int .i64 k, .slice B n c] 42))) := ⟨below_alloc (Below.refl _ _) _⟩
  have HN := Aside0.mk (h.below HB0.out)
  clear h
  go_enter Try.func13, Try.ntmps13
  go_wp2_with (go_at_call 27; refine (emade_no _ _ HN.out).mono ?_; rintro e w' ⟨rfl, hw'⟩; have hw' := hw'.symm; subst hw')
  go_ret2
  exact ⟨rfl, HB0.out⟩
end Go.Proofs.Ytcpkfkcemaihfaa.Oct
