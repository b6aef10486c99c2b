import Derived.Test.YtilogpjbdemceaaRecsE
import Derived.Test.YtilogpjbdemceaaFCopy
/- The document's stream of records. -/
namespace Go.Proofs.Ytilogpjbdemceaa.Oct
open Go.RowKit Go.Proofs.YtilogpjbdemceaaW.PrintWords Go.Proofs.Ytilogpjbdemceaa.M
set_option linter.unusedVariables false
set_option linter.unusedSimpArgs false
theorem four_cells {W : World} {b : Nat} {x y z u : Value} {t : TypeId} (h : W.heap[b]? = some (.cells #[x, y, z, u] t (0, 0))) :
    (W.cell? ⟨b, 0, none⟩ = some x ∧ W.cell? ⟨b, 1, none⟩ = some y ∧ W.cell? ⟨b, 2, none⟩ = some z ∧ W.cell? ⟨b, 3, none⟩ = some u) ∧ W.frozen? ⟨b, 0, none⟩ = false ∧ W.frozen? ⟨b, 1, none⟩ = false ∧ W.frozen? ⟨b, 2, none⟩ = false ∧ W.frozen? ⟨b, 3, none⟩ = false := by
  refine ⟨⟨?_, ?_, ?_, ?_⟩, ?_, ?_, ?_, ?_⟩ <;> simp [World.cell?, World.frozen?, h]
/-- the document's stream in memory: what was taken stands ahead -/
def RefAt (W : World) (x : Nat) (s : SS) (F : Nat → Prop) (L : Nat) : Prop :=
  ∃ v, ∃ pre : List Int, W.heap[x]? = some (.cells #[v, .int .i64 pre.length, .int .i64 ((pre.length : Int) + s.left), .bool s.ended] 60 (0, 0)) ∧ QB W 0 v (pre ++ s.held) ∧ F x ∧ (∀ k, v.ownBlock = some k → F k ∧ k ≠ x) ∧ s.ok ∧ (pre ++ s.held).length ≤ L
theorem RefAt.step {W W' : World} {x L : Nat} {s : SS} {F : Nat → Prop} (h : RefAt W x s F L) (hb : ∀ k, F k → k < W.heap.size → W'.heap[k]? = W.heap[k]?) : RefAt W' x s F L := by
  obtain ⟨v, pre, hh, ho, hp, hk, hok⟩ := h
  exact ⟨v, pre, (hb x hp (Array.getElem?_eq_some_iff.1 hh).1).trans hh, ho.move (fun k e => hb k (hk k e).1 (ho.block e).2), hp, hk, hok⟩
theorem RefAt.below {W W' : World} {x L : Nat} {s : SS} {F : Nat → Prop} (h : RefAt W x s F L) (hb : Below W.heap.size W W') : RefAt W' x s F L := h.step (fun k _ hk => hb.block k hk)
theorem RefAt.mono {W : World} {x L : Nat} {s : SS} {F G : Nat → Prop} (h : RefAt W x s F L) (hg : ∀ k, F k → k < W.heap.size → G k) : RefAt W x s G L := by
  obtain ⟨v, pre, hh, ho, hp, hk, hok⟩ := h
  exact ⟨v, pre, hh, ho, hg x hp (Array.getElem?_eq_some_iff.1 hh).1, fun k e => ⟨hg k (hk k e).1 (ho.block e).2, (hk k e).2⟩, hok⟩
theorem RefAt.up {W : World} {x L M : Nat} {s : SS} {F : Nat → Prop} (h : RefAt W x s F L) (hl : L ≤ M) : RefAt W x s F M := by
  obtain ⟨v, pre, hh, ho, hp, hk, hok, hl'⟩ := h
  exact ⟨v, pre, hh, ho, hp, hk, hok, Nat.le_trans hl' hl⟩
def RetX (W : World) (x : Nat) (F : Nat → Prop) (s : SS) (L : Nat) (v : Value) (e : Ending) (W' : World) : Prop := e = .returned v ∧ RefAt W' x s (New W F) L ∧ Kept W F W'
theorem ref_close {w w1 w' : World} {p L : Nat} {s : SS} {F : Nat → Prop} {v : Value} {pre : List Int} (hp : F p) (hok : s.ok) (hk : Kept w F w1)
    (hh : w'.heap[p]? = some (.cells #[v, .int .i64 pre.length, .int .i64 ((pre.length : Int) + s.left), .bool s.ended] 60 (0, 0))) (hs : w1.grownBy w' (some p)) (o1 : QB w1 0 v (pre ++ s.held)) (n1 : ∀ k, v.ownBlock = some k → New w F k ∧ k ≠ p) (hl : (pre ++ s.held).length ≤ L) : RefAt w' p s (New w F) L ∧ Kept w F w' :=
  ⟨⟨v, pre, hh, o1.move (fun k h => hs.block k (o1.block h).2 (fun e => by injection e with e; exact (n1 k h).2 e)), .inl hp, n1, hok, hl⟩,
   hk.trans (Kept.of_grown (F := F) hs (fun k e => by injection e with e; subst e; exact hp)) (fun k _ h => h)⟩
theorem xfew_calls (w : World) (x L : Nat) (s : SS) (F : Nat → Prop) (h : RefAt w x s F L) : Calls Try.prog 45 #[.pointer (some ⟨x, 0, none⟩)] w fun e w' => e = .returned (.int .i64 s.lacks) ∧ w' = w := by
  obtain ⟨v, pre, hh, ho, hp, hk, hok⟩ := h
  obtain ⟨left, held, ended⟩ := s
  obtain ⟨⟨c0, c1, c2, c3⟩, f0, f1, f2, f3⟩ := four_cells hh
  clear hh ho hp hk hok
  cases ended
  all_goals
    go_enter Try.func45, Try.ntmps45
    go_wp2
    go_ret
    exact ⟨rfl, rfl⟩
set_option maxHeartbeats 1000000 in
theorem xheld_calls (w : World) (x L : Nat) (s : SS) (F : Nat → Prop) (h : RefAt w x s F L) (hL : L ≤ 140737488355328) : Calls Try.prog 38 #[.pointer (some ⟨x, 0, none⟩)] w fun e w' => e = .returned (.int .i64 s.held.length) ∧ Below w.heap.size w w' := by
  obtain ⟨v, pre, hh, ho, hp, hk, hok, hl⟩ := h
  obtain ⟨left, held, ended⟩ := s
  dsimp only at hh ho hl
  obtain ⟨B, d, rfl, hd, hm, hr⟩ := ho.form
  obtain ⟨⟨c0, c1, c2, c3⟩, f0, f1, f2, f3⟩ := four_cells hh
  have HN : Aside0 ((pre ++ held).length = pre.length + held.length) := ⟨List.length_append⟩
  obtain ⟨N, hN⟩ : ∃ N, N = (pre ++ held).length := ⟨_, rfl⟩
  obtain ⟨n, hn⟩ : ∃ n, n = pre.length := ⟨_, rfl⟩
  rw [← hN] at c0 hl hd HN
  rw [← hn] at c1 c2 HN
  have h1 : (N : Int) ≤ 140737488355328 := by omega
  have h2 : (n : Int) ≤ (N : Int) := by have := HN.out; omega
  clear hh ho hp hk hok hr hm hN hn hl hd hL
  go_enter Try.func38, Try.ntmps38
  go_wp2_with fail
  go_quiet (fail)
  go_wp2_with fail
  go_ret
  refine ⟨?_, below_draws _ _⟩
  rw [show (N : Int) - (n : Int) = (held.length : Int) by have := HN.out; omega]
  rfl
theorem xend_calls (w : World) (x L : Nat) (s : SS) (F : Nat → Prop) (h : RefAt w x s F L) : Calls Try.prog 37 #[.pointer (some ⟨x, 0, none⟩)] w (RetX w x F s.fin.1 L (.int .i64 s.fin.2)) := by
  have HT := Aside0.mk h
  obtain ⟨v, pre, hh, ho, hp, hk, hok, hl⟩ := h
  obtain ⟨left, held, ended⟩ := s
  obtain ⟨⟨c0, c1, c2, c3⟩, f0, f1, f2, f3⟩ := four_cells hh
  have HH := Aside0.mk hh
  have HO := Aside0.mk ho
  have HK := Aside0.mk hk
  have HP := Aside0.mk (And.intro hp (And.intro hok hl))
  clear hh ho hp hk hok hl
  cases ended
  · go_enter Try.func37, Try.ntmps37
    go_wp2
    go_ret
    exact ⟨rfl, ref_close HP.out.1 (SS.fin_ok HP.out.2.1) (Kept.refl _ _) (heap_set _ HH.out) (grown_set _ _ _ _) HO.out (fun k e => ⟨.inl (HK.out k e).1, (HK.out k e).2⟩) HP.out.2.2⟩
  · go_enter Try.func37, Try.ntmps37
    go_wp2
    go_ret
    exact ⟨rfl, HT.out.mono (fun k h _ => .inl h), Kept.refl _ _⟩
set_option maxHeartbeats 1000000 in
theorem xput_calls (w : World) (p L : Nat) (s : SS) (F : Nat → Prop) (A : Option Addr) (c : Nat) (ys : List Int) (h : RefAt w p s F L) (hy : Kd.C (Kd.int .u8) w A ys.length ys) (hb : Bytes ys) (hL : L + ys.length ≤ 140737488355328) :
    Calls Try.prog 34 #[.pointer (some ⟨p, 0, none⟩), .slice A ys.length c] w (RetX w p F (s.put ys).1 (L + ys.length) (.int .i64 (s.put ys).2)) := by
  have HT := Aside0.mk h
  have HLL := Aside0.mk hL
  obtain ⟨v, pre, hh, ho, hp, hk, hok, hl⟩ := h
  have HOK2 := Aside0.mk (SS.put_ok hok hb)
  obtain ⟨left, held, ended⟩ := s
  dsimp only at hh ho hk hok hl
  obtain ⟨B, d, rfl, hd, hm, hr⟩ := ho.form
  obtain ⟨⟨c0, c1, c2, c3⟩, f0, f1, f2, f3⟩ := four_cells hh
  have HPL := Aside0.mk (Array.getElem?_eq_some_iff.1 hh).1
  have hl1 : held.length ≤ 65536 := hok.2.1
  have hl2 : (ys.length : Int) ≤ 140737488355328 := by omega
  have HN : Aside0 ((pre ++ held).length ≤ L) := ⟨hl⟩
  have HH := Aside0.mk hh
  have HO := Aside0.mk ho
  have HK := Aside0.mk hk
  have HP := Aside0.mk hp
  have HY := Aside0.mk hy
  obtain ⟨N, hN⟩ : ∃ N, N = (pre ++ held).length := ⟨_, rfl⟩
  have HNN := Aside0.mk hN
  rw [← hN] at c0 HH HO HK
  clear hh ho hp hk hok hr hy hb hd hm hl hN hL
  cases ended
  · by_cases hf : 65536 - (held.length : Int) < (ys.length : Int)
    · have HV : Aside0 (SS.put ⟨left, held, false⟩ ys = (⟨left, held, false⟩, 5)) := ⟨by unfold SS.put; rw [if_neg (by simp), if_pos (by simp only; omega)]⟩
      have hf' : 65536 < (held.length : Int) + (ys.length : Int) := by omega
      clear HOK2 hf
      go_enter Try.func34, Try.ntmps34
      go_wp2_with fail
      refine (xheld_calls _ p L _ F HT.out (by have := HLL.out; omega)).mono ?_
      rintro e w1 ⟨rfl, hb1⟩
      have HB1 := Aside0.mk hb1
      clear hb1 c0 c1 c2 c3 f0 f1 f2 f3
      go_wp2_with fail
      go_ret
      rw [HV.out]
      exact ⟨rfl, ((HT.out.below HB1.out).mono (fun k h _ => .inl h)).up (Nat.le_add_right _ _), Kept.of_below _ HB1.out⟩
    · have HV : Aside0 (SS.put ⟨left, held, false⟩ ys = (⟨left, held ++ ys, false⟩, 0)) := ⟨by unfold SS.put; rw [if_neg (by simp), if_neg (by simp only; omega)]⟩
      have HOK3 : Aside0 (SS.ok ⟨left, held ++ ys, false⟩) := ⟨by have := HOK2.out; rw [HV.out] at this; exact this⟩
      have hf' : ¬ 65536 < (held.length : Int) + (ys.length : Int) := by omega
      clear HOK2 hf
      go_enter Try.func34, Try.ntmps34
      go_wp2_with fail
      refine (xheld_calls _ p L _ F HT.out (by have := HLL.out; omega)).mono ?_
      rintro e w1 ⟨rfl, hb1⟩
      have HB1 := Aside0.mk hb1
      clear c0 c1 c2 c3 f0 f1 f2 f3
      obtain ⟨⟨c0, c1, c2, c3⟩, f0, f1, f2, f3⟩ := four_cells (blk_keep HH.out hb1)
      have HO1 := Aside0.mk (HO.out.below hb1)
      have HH1 := Aside0.mk (blk_keep HH.out hb1)
      have HY1 := Aside0.mk (Kd.C_below HY.out hb1)
      have HPL1 : Aside0 (p < w1.heap.size) := ⟨Nat.lt_of_lt_of_le HPL.out hb1.size⟩
      clear hb1
      go_wp2_with (at_builtin; refine app_q (W := w1) 0 rfl (.tmp 19) (.tmp 20) rfl (.slice B N d) (pre ++ held) ys A ys.length c rfl rfl rfl HO1.out HY1.out (Nat.zero_le _) (by have := HN.out; have := HLL.out; omega) ?_; intro v1 w2 ho1 hg1 hb1; have HO2 := Aside0.mk ho1; have HG1 := Aside0.mk hg1; have HB2 := Aside0.mk hb1; clear hb1; obtain ⟨A1, c3', rfl, _⟩ := HO2.out.form; have hh1 := (hg1.block p HPL1.out (fun e => (HK.out p e.symm).2 rfl)).trans HH1.out; clear c0 c1 c2 c3 f0 f1 f2 f3; obtain ⟨⟨c0, c1, c2, c3⟩, f0, f1, f2, f3⟩ := four_cells hh1; have HH2 := Aside0.mk hh1; clear hh1 hg1 ho1)
      go_ret
      rw [HV.out]
      have ho1 := HO2.out
      have hb1 := HB2.out
      rw [List.append_assoc] at ho1 hb1
      simp only [List.length_append] at ho1 hb1
      have hkk : Kept w F w2 := (Kept.of_below F HB1.out).trans (Kept.of_grown (F := F) HG1.out (fun k e => (HK.out k e).1)) (fun k _ h => h)
      exact ⟨rfl, ref_close (s := ⟨left, held ++ ys, false⟩) HP.out HOK3.out hkk (heap_set _ HH2.out) (grown_set _ _ _ _) ho1 (fun k e => by
        rcases hb1 with h | ⟨b, h, hb⟩
        · rw [h] at e
          exact ⟨.inl (HK.out k e).1, (HK.out k e).2⟩
        · rw [h] at e
          injection e with e
          subst e
          have := HPL1.out
          exact ⟨.inr (Nat.le_trans HB1.out.size hb), by omega⟩) (by have := HN.out; simp only [List.length_append] at this ⊢; omega)⟩
  · have HV : Aside0 (SS.put ⟨left, held, true⟩ ys = (⟨left, held, true⟩, 110)) := ⟨by unfold SS.put; rw [if_pos rfl]⟩
    clear HOK2
    go_enter Try.func34, Try.ntmps34
    go_wp2
    go_ret
    rw [HV.out]
    exact ⟨rfl, (HT.out.mono (fun k h _ => .inl h)).up (Nat.le_add_right _ _), Kept.refl _ _⟩
end Go.Proofs.Ytilogpjbdemceaa.Oct
