import Derived.Test.YtilogpjbdemceaaOwn
import Derived.Test.YtilogpjbdemceaaRecsM
import Derived.Test.YtilogpjbdemceaaFClone
import Derived.StillTailTactics
namespace Go.Proofs.Ytilogpjbdemceaa.Oct
open Go.RowKit Go.Proofs.YtilogpjbdemceaaW.PrintWords Go.Proofs.Ytilogpjbdemceaa.M
set_option linter.unusedVariables false
set_option linter.unusedSimpArgs false
/-- only blocks that F lets may have changed -/
structure Kept (W : World) (F : Nat → Prop) (W' : World) : Prop where
  os : W'.os = W.os
  tape : W'.tape = W.tape
  output : W'.output = W.output
  size : W.heap.size ≤ W'.heap.size
  block : ∀ k, k < W.heap.size → ¬ F k → W'.heap[k]? = W.heap[k]?
theorem grown_set (W : World) (p j : Nat) (v : Value) : W.grownBy (W.setCell ⟨p, j, none⟩ v) (some p) := ⟨rfl, rfl, rfl, by simp [World.setCell], fun k hk hne => Below.heap_setCell W ⟨p, j, none⟩ v k (fun e => hne (by rw [e]))⟩
theorem Kept.refl (W : World) (F : Nat → Prop) : Kept W F W := ⟨rfl, rfl, rfl, Nat.le_refl _, fun _ _ _ => rfl⟩
theorem Kept.of_below {W W' : World} (F : Nat → Prop) (h : Below W.heap.size W W') : Kept W F W' := by
  have g := grown_of_below h none
  exact ⟨g.os, g.tape, g.output, g.size, fun k hk _ => h.block k hk⟩
theorem Kept.of_grown {W W' : World} {F : Nat → Prop} {row : Option Nat} (h : W.grownBy W' row) (hp : ∀ k, row = some k → F k) : Kept W F W' := ⟨h.os, h.tape, h.output, h.size, fun k hk hf => h.block k hk (fun e => hf (hp k e.symm))⟩
theorem Kept.trans {W W1 W2 : World} {F G : Nat → Prop} (h : Kept W F W1) (h2 : Kept W1 G W2) (hG : ∀ k, k < W.heap.size → G k → F k) : Kept W F W2 :=
  ⟨h2.os.trans h.os, h2.tape.trans h.tape, h2.output.trans h.output, Nat.le_trans h.size h2.size, fun k hk hf => (h2.block k (Nat.lt_of_lt_of_le hk h.size) (fun hg => hf (hG k hk hg))).trans (h.block k hk hf)⟩
theorem below_kept {base : Nat} {W0 W W' : World} {F : Nat → Prop} (h0 : Below base W0 W) (h : Kept W F W') (hs : base ≤ W.heap.size) (hF : ∀ k, F k → base ≤ k) : Below base W0 W' :=
  h0.trans ⟨h.os, h.tape, h.output, h.size, fun k hk => h.block k (by omega) (fun hf => by have := hF k hf; omega)⟩
theorem OB.kept {W W' : World} {base : Nat} {F : Nat → Prop} {v : Value} {xs : List Int} (h : OB W base v xs) (hk : Kept W F W') (hF : ∀ k, base ≤ k → ¬ F k) : OB W' base v xs :=
  own_move h (fun k e => hk.block k (own_lt h k e) (hF k (own_base h k e)))
/-- the three cells of a block -/
theorem three_cells {W : World} {b : Nat} {x y z : Value} {t : TypeId} (h : W.heap[b]? = some (.cells #[x, y, z] t (0, 0))) :
    W.cell? ⟨b, 0, none⟩ = some x ∧ W.cell? ⟨b, 1, none⟩ = some y ∧ W.cell? ⟨b, 2, none⟩ = some z ∧ W.frozen? ⟨b, 0, none⟩ = false ∧ W.frozen? ⟨b, 1, none⟩ = false ∧ W.frozen? ⟨b, 2, none⟩ = false := by
  refine ⟨?_, ?_, ?_, ?_, ?_, ?_⟩ <;> simp [World.cell?, World.frozen?, h]
/-- the stream in memory -/
def StreamAt (W : World) (p : Nat) (s : SS) (F : Nat → Prop) : Prop :=
  ∃ v, W.heap[p]? = some (.cells #[.int .i64 s.left, v, .bool s.ended] 68 (0, 0)) ∧ QB W 0 v s.held ∧ F p ∧ (∀ k, v.ownBlock = some k → F k ∧ k ≠ p) ∧ s.ok
theorem StreamAt.step {W W' : World} {p : Nat} {s : SS} {F : Nat → Prop} (h : StreamAt W p s F) (hb : ∀ k, F k → k < W.heap.size → W'.heap[k]? = W.heap[k]?) : StreamAt W' p s F := by
  obtain ⟨v, hh, ho, hp, hk, hok⟩ := h
  exact ⟨v, (hb p hp (Array.getElem?_eq_some_iff.1 hh).1).trans hh, ho.move (fun k e => hb k (hk k e).1 (ho.block e).2), hp, hk, hok⟩
theorem StreamAt.below {W W' : World} {p : Nat} {s : SS} {F : Nat → Prop} (h : StreamAt W p s F) (hb : Below W.heap.size W W') : StreamAt W' p s F := h.step (fun k _ hk => hb.block k hk)
theorem StreamAt.mono {W : World} {p : Nat} {s : SS} {F G : Nat → Prop} (h : StreamAt W p s F) (hg : ∀ k, F k → k < W.heap.size → G k) : StreamAt W p s G := by
  obtain ⟨v, hh, ho, hp, hk, hok⟩ := h
  exact ⟨v, hh, ho, hg p hp (Array.getElem?_eq_some_iff.1 hh).1, fun k e => ⟨hg k (hk k e).1 (ho.block e).2, (hk k e).2⟩, hok⟩
theorem StreamAt.is {W : World} {p : Nat} {s : SS} {F : Nat → Prop} (h : StreamAt W p s F) : p < W.heap.size ∧ F p ∧ s.ok := by
  obtain ⟨v, hh, _, hp, _, hok⟩ := h
  exact ⟨(Array.getElem?_eq_some_iff.1 hh).1, hp, hok⟩
/-- a call of a stream's -/
def RetS (W : World) (p : Nat) (F : Nat → Prop) (s : SS) (v : Value) (e : Ending) (W' : World) : Prop := e = .returned v ∧ StreamAt W' p s (New W F) ∧ Kept W F W'
/-- what stood, behind stores into p and a row that grew -/
theorem stream_close {w w1 w' : World} {p : Nat} {s : SS} {F : Nat → Prop} {v : Value} (hp : F p) (hok : s.ok) (hk : Kept w F w1)
    (hh : w'.heap[p]? = some (.cells #[.int .i64 s.left, v, .bool s.ended] 68 (0, 0))) (hs : w1.grownBy w' (some p)) (o1 : QB w1 0 v s.held) (n1 : ∀ k, v.ownBlock = some k → New w F k ∧ k ≠ p) : StreamAt w' p s (New w F) ∧ Kept w F w' :=
  ⟨⟨v, hh, o1.move (fun k h => hs.block k (o1.block h).2 (fun e => by injection e with e; exact (n1 k h).2 e)), .inl hp, n1, hok⟩,
   hk.trans (Kept.of_grown (F := F) hs (fun k e => by injection e with e; subst e; exact hp)) (fun k _ h => h)⟩

theorem snew_at (w : World) : Calls Try.prog 22 #[] w fun e w' => e = .returned (.pointer (some ⟨w.heap.size, 0, none⟩)) ∧ StreamAt w' w.heap.size ⟨0, [], false⟩ (fun k => k = w.heap.size) ∧ Below w.heap.size w w' := by
  go_enter Try.func22, Try.ntmps22
  go_wp2
  go_ret
  exact ⟨rfl, ⟨_, heap_alloc_new w _, QB.nil _ _, rfl, fun k h => (nomatch h), by decide, by decide, Bytes.nil⟩, below_alloc (Below.refl _ _) _⟩
theorem snew_calls (w : World) : Calls Try.prog 22 #[] w fun e w' => e = .returned (.pointer (some ⟨w.heap.size, 0, none⟩)) ∧ StreamAt w' w.heap.size ⟨0, [], false⟩ (fun k => w.heap.size ≤ k) ∧ Below w.heap.size w w' := by
  refine (snew_at w).mono ?_
  rintro e w' ⟨rfl, hs, hb⟩
  exact ⟨rfl, hs.mono (fun k hk _ => by rw [hk]; exact Nat.le_refl _), hb⟩
theorem sheld_calls (w : World) (p : Nat) (s : SS) (F : Nat → Prop) (h : StreamAt w p s F) : Calls Try.prog 25 #[.pointer (some ⟨p, 0, none⟩)] w fun e w' => e = .returned (.int .i64 s.held.length) ∧ w' = w := by
  obtain ⟨v, hh, ho, hp, hk, hok⟩ := h
  obtain ⟨A, c, rfl, hc, hm, hr⟩ := ho.form
  obtain ⟨c0, c1, c2, _, _, _⟩ := three_cells hh
  clear hh ho hp hk hok hr
  go_enter Try.func25, Try.ntmps25
  go_wp2
  go_ret
  exact ⟨rfl, rfl⟩
theorem sheld_nil (w : World) : Calls Try.prog 25 #[.pointer none] w fun e w' => e = .returned (.int .i64 0) ∧ w' = w := by
  go_enter Try.func25, Try.ntmps25
  go_wp2
  go_ret
  exact ⟨rfl, rfl⟩
theorem send_nil (w : World) : Calls Try.prog 36 #[.pointer none] w fun e w' => e = .returned (.int .i64 6) ∧ w' = w := by
  go_enter Try.func36, Try.ntmps36
  go_wp2
  go_ret
  exact ⟨rfl, rfl⟩
theorem sput_nil (w : World) (v : Value) : Calls Try.prog 23 #[.pointer none, v] w fun e w' => e = .returned (.int .i64 6) ∧ w' = w := by
  go_enter Try.func23, Try.ntmps23
  go_wp2
  go_ret
  exact ⟨rfl, rfl⟩
theorem sget_nil (w : World) (n : Int) : Calls Try.prog 24 #[.pointer none, .int .i64 n] w fun e w' => e = .returned (.tuple #[.slice none 0 0, .bool false, .int .i64 6]) ∧ w' = w := by
  go_enter Try.func24, Try.ntmps24
  go_wp2
  go_ret3
  exact ⟨rfl, rfl⟩
theorem slacks_calls (w : World) (p : Nat) (s : SS) (F : Nat → Prop) (h : StreamAt w p s F) : Calls Try.prog 42 #[.pointer (some ⟨p, 0, none⟩)] w fun e w' => e = .returned (.int .i64 s.lacks) ∧ w' = w := by
  obtain ⟨v, hh, ho, hp, hk, hok⟩ := h
  obtain ⟨left, held, ended⟩ := s
  obtain ⟨c0, c1, c2, _, _, _⟩ := three_cells hh
  clear hh ho hp hk hok
  cases ended
  all_goals
    go_enter Try.func42, Try.ntmps42
    go_wp2
    go_ret
    exact ⟨rfl, rfl⟩
theorem send_calls (w : World) (p : Nat) (s : SS) (F : Nat → Prop) (h : StreamAt w p s F) : Calls Try.prog 36 #[.pointer (some ⟨p, 0, none⟩)] w (fun e w' => RetS w p F s.fin.1 (.int .i64 s.fin.2) e w' ∧ w'.heap.size = w.heap.size) := by
  have HT := Aside0.mk h
  obtain ⟨v, hh, ho, hp, hk, hok⟩ := h
  obtain ⟨left, held, ended⟩ := s
  obtain ⟨c0, c1, c2, f0, f1, f2⟩ := three_cells hh
  have HH := Aside0.mk hh
  have HO := Aside0.mk ho
  have HK := Aside0.mk hk
  have HP := Aside0.mk (And.intro hp hok)
  clear hh ho hp hk hok
  cases ended
  · go_enter Try.func36, Try.ntmps36
    go_wp2
    go_ret
    exact ⟨⟨rfl, stream_close HP.out.1 (SS.fin_ok HP.out.2) (Kept.refl _ _) (heap_set _ HH.out) (grown_set _ _ _ _) HO.out (fun k e => ⟨.inl (HK.out k e).1, (HK.out k e).2⟩)⟩, by simp [World.setCell]⟩
  · go_enter Try.func36, Try.ntmps36
    go_wp2
    go_ret
    exact ⟨⟨rfl, HT.out.mono (fun k h _ => .inl h), Kept.refl _ _⟩, rfl⟩
set_option maxHeartbeats 1000000 in
theorem sput_calls (w : World) (p : Nat) (s : SS) (F : Nat → Prop) (A : Option Addr) (c : Nat) (ys : List Int) (h : StreamAt w p s F) (hy : Kd.C (Kd.int .u8) w A ys.length ys) (hb : Bytes ys) :
    Calls Try.prog 23 #[.pointer (some ⟨p, 0, none⟩), .slice A ys.length c] w (RetS w p F (s.put ys).1 (.int .i64 (s.put ys).2)) := by
  have HT := Aside0.mk h
  have HOK2 := Aside0.mk (SS.put_ok h.is.2.2 hb)
  have HPL := Aside0.mk h.is.1
  obtain ⟨v, hh, ho, hp, hk, hok⟩ := h
  obtain ⟨left, held, ended⟩ := s
  dsimp only at hh ho hk hok
  obtain ⟨B, d, rfl, hd, hm, hr⟩ := ho.form
  obtain ⟨c0, c1, c2, f0, f1, f2⟩ := three_cells hh
  have hl1 : held.length ≤ 65536 := hok.2.1
  have hl2 : ys.length ≤ 9223372036854775807 := hy.2.1
  have HH := Aside0.mk hh
  have HO := Aside0.mk ho
  have HK := Aside0.mk hk
  have HP := Aside0.mk hp
  have HY := Aside0.mk hy
  clear hh ho hp hk hok hr hy hb hd hm
  cases ended
  · by_cases hf : 65536 - (held.length : Int) < (ys.length : Int)
    · have HV : Aside0 (SS.put ⟨left, held, false⟩ ys = (⟨left, held, false⟩, 5)) := ⟨by unfold SS.put; rw [if_neg (by simp), if_pos (by simp only; omega)]⟩
      clear HOK2
      go_enter Try.func23, Try.ntmps23
      go_wp2
      go_ret
      rw [HV.out]
      exact ⟨rfl, HT.out.mono (fun k h _ => .inl h), Kept.refl _ _⟩
    · have HV : Aside0 (SS.put ⟨left, held, false⟩ ys = (⟨left, held ++ ys, false⟩, 0)) := ⟨by unfold SS.put; rw [if_neg (by simp), if_neg (by simp only; omega)]⟩
      have HOK3 : Aside0 (SS.ok ⟨left, held ++ ys, false⟩) := ⟨by have := HOK2.out; rw [HV.out] at this; exact this⟩
      clear HOK2
      go_enter Try.func23, Try.ntmps23
      go_wp2_with (at_builtin; refine app_q (W := w) 0 rfl (.tmp 27) (.tmp 28) rfl (.slice B held.length d) held ys A ys.length c rfl rfl rfl HO.out HY.out (Nat.zero_le _) (by omega) ?_; intro v1 w1 ho1 hg1 hb1; have HO1 := Aside0.mk ho1; have HG1 := Aside0.mk hg1; have HB1 := Aside0.mk hb1; clear hb1; obtain ⟨A1, c3, rfl, _⟩ := HO1.out.form; have hh1 := (hg1.block p HPL.out (fun e => (HK.out p e.symm).2 rfl)).trans HH.out; obtain ⟨d0, d1, d2, g0, g1, g2⟩ := three_cells hh1; have HH1 := Aside0.mk hh1; clear hh1 hg1 ho1)
      go_ret
      rw [HV.out]
      have ho1 := HO1.out
      have hb1 := HB1.out
      rw [List.length_append] at ho1 hb1
      exact ⟨rfl, stream_close HP.out HOK3.out (Kept.of_grown HG1.out (fun k e => (HK.out k e).1)) (heap_set _ HH1.out) (grown_set _ _ _ _) ho1 (fun k e => by
        rcases hb1 with h | ⟨b, h, hb⟩
        · rw [h] at e
          exact ⟨.inl (HK.out k e).1, (HK.out k e).2⟩
        · rw [h] at e
          injection e with e
          subst e
          have := HPL.out
          exact ⟨.inr hb, by omega⟩)⟩
  · have HV : Aside0 (SS.put ⟨left, held, true⟩ ys = (⟨left, held, true⟩, 110)) := ⟨by unfold SS.put; rw [if_pos rfl]⟩
    clear HOK2
    go_enter Try.func23, Try.ntmps23
    go_wp2
    go_ret
    rw [HV.out]
    exact ⟨rfl, HT.out.mono (fun k h _ => .inl h), Kept.refl _ _⟩
end Go.Proofs.Ytilogpjbdemceaa.Oct
