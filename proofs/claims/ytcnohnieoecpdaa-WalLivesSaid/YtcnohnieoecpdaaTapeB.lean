import Derived.Test.YtcnohnieoecpdaaTapeA
namespace Go.Proofs.Ytcnohnieoecpdaa.Oct
open Go.RowKit Go.Proofs.YtcnohnieoecpdaaW.PrintWords Go.Proofs.Ytcnohnieoecpdaa.M
set_option linter.unusedVariables false
set_option linter.unusedSimpArgs false
/-- the three cells of a block -/
theorem three_cells {W : World} {b : Nat} {x y z : Value} {t : TypeId} (h : W.heap[b]? = some (.cells #[x, y, z] t (0, 0))) :
    W.cell? ⟨b, 0, none⟩ = some x ∧ W.cell? ⟨b, 1, none⟩ = some y ∧ W.cell? ⟨b, 2, none⟩ = some z ∧ W.frozen? ⟨b, 0, none⟩ = false ∧ W.frozen? ⟨b, 1, none⟩ = false ∧ W.frozen? ⟨b, 2, none⟩ = false := by
  refine ⟨?_, ?_, ?_, ?_, ?_, ?_⟩ <;> simp [World.cell?, World.frozen?, h]
theorem TapeAt.step {W W' : World} {p : Nat} {t : TS} {F : Nat → Prop} (h : TapeAt W p t F) (hs : W.heap.size ≤ W'.heap.size) (hb : ∀ k, F k → k < W.heap.size → W'.heap[k]? = W.heap[k]?) : TapeAt W' p t F := by
  obtain ⟨A, c, hh, hc, hp, hr, hok⟩ := h
  exact ⟨A, c, (hb p hp (Array.getElem?_eq_some_iff.1 hh).1).trans hh, hc, hp, hr.step hs (fun k hk hlt => hb k hk.1 hlt), hok⟩
theorem TapeAt.below {W W' : World} {p : Nat} {t : TS} {F : Nat → Prop} (h : TapeAt W p t F) (hb : Below W.heap.size W W') : TapeAt W' p t F := h.step hb.size (fun k _ hk => hb.block k hk)
theorem TapeAt.grown {W W' : World} {p : Nat} {t : TS} {F : Nat → Prop} {row : Option Nat} (h : TapeAt W p t F) (hg : W.grownBy W' row) (hf : ∀ k, F k → some k ≠ row) : TapeAt W' p t F := h.step hg.size (fun k hF hk => hg.block k hk (hf k hF))
theorem TapeAt.mono {W : World} {p : Nat} {t : TS} {F G : Nat → Prop} (h : TapeAt W p t F) (hg : ∀ k, F k → k < W.heap.size → G k) : TapeAt W p t G := by
  obtain ⟨A, c, hh, hc, hp, hr, hok⟩ := h
  exact ⟨A, c, hh, hc, hg p hp (Array.getElem?_eq_some_iff.1 hh).1, hr.mono (fun k hk hlt => ⟨hg k hk.1 hlt, hk.2⟩), hok⟩
/-- a call of a tape's: its error, the tape behind it, and what was turned -/
def RetT (W : World) (p : Nat) (F : Nat → Prop) (t : TS) (n : Int) (e : Ending) (W' : World) : Prop := e = .returned (.int .i64 n) ∧ TapeAt W' p t (New W F) ∧ W.grownBy W' (some p)
theorem grown_set (W : World) (p j : Nat) (v : Value) : W.grownBy (W.setCell ⟨p, j, none⟩ v) (some p) := ⟨rfl, rfl, rfl, by simp [World.setCell], fun k hk hne => Below.heap_setCell W ⟨p, j, none⟩ v k (fun e => hne (by rw [e]))⟩
theorem grown_below {W W1 W2 : World} {row : Option Nat} (h : Below W.heap.size W W1) (g : W1.grownBy W2 row) : W.grownBy W2 row := World.grownBy.trans (grown_of_below h row) g
theorem below_draws (W : World) (n : Nat) : Below W.heap.size W (W.drewN n) := pw_below_drewN (Below.refl _ _) n

theorem made_calls (w : World) (p : Nat) (t : TS) (F : Nat → Prop) (h : TapeAt w p t F) : Calls Try.prog 43 #[.pointer (some ⟨p, 0, none⟩)] w fun e w' => e = .returned (.bool true) ∧ w' = w := by
  obtain ⟨A, c, hh, hc, hp, hr, hok⟩ := h
  obtain ⟨c0, _, _, _, _, _⟩ := three_cells hh
  have hroom : decide (0 < t.room) = true := by have := hok.1; simp; omega
  go_enter Try.func43, Try.ntmps43
  go_wp2
  go_ret
  exact ⟨rfl, rfl⟩
theorem force_calls (w : World) (p : Nat) (t : TS) (F : Nat → Prop) (h : TapeAt w p t F) : Calls Try.prog 46 #[.pointer (some ⟨p, 0, none⟩)] w (RetT w p F t.force 0) := by
  have HT := Aside0.mk h
  obtain ⟨A, c, hh, hc, hp, hr, hok⟩ := h
  obtain ⟨c0, c1, c2, f0, f1, f2⟩ := three_cells hh
  have HH := Aside0.mk hh
  clear hh
  go_enter Try.func46, Try.ntmps46
  go_wp2_with fail
  refine (made_calls _ p t F HT.out).mono ?_
  rintro e w1 ⟨rfl, rfl⟩
  go_wp2
  go_ret
  refine ⟨rfl, ⟨A, c, heap_set _ HH.out, hc, .inl hp, ?_, TS.force_ok hok⟩, grown_set _ _ _ _⟩
  exact (hr.grown (grown_set _ p 2 _) (fun k hk e => hk.2 (by injection e))).mono (fun k hk _ => ⟨.inl hk.1, hk.2⟩)
theorem len_calls (w : World) (p : Nat) (t : TS) (F : Nat → Prop) (h : TapeAt w p t F) : Calls Try.prog 24 #[.pointer (some ⟨p, 0, none⟩)] w fun e w' => e = .returned (.int .i64 t.bs.length) ∧ w' = w := by
  have HT := Aside0.mk h
  obtain ⟨A, c, hh, hc, hp, hr, hok⟩ := h
  obtain ⟨c0, c1, c2, f0, f1, f2⟩ := three_cells hh
  clear hh
  go_enter Try.func24, Try.ntmps24
  go_wp2_with fail
  refine (made_calls _ p t F HT.out).mono ?_
  rintro e w1 ⟨rfl, rfl⟩
  go_wp2
  go_ret
  exact ⟨rfl, rfl⟩
theorem forced_calls (w : World) (p : Nat) (t : TS) (F : Nat → Prop) (h : TapeAt w p t F) : Calls Try.prog 23 #[.pointer (some ⟨p, 0, none⟩)] w fun e w' => e = .returned (.int .i64 t.forced) ∧ w' = w := by
  have HT := Aside0.mk h
  obtain ⟨A, c, hh, hc, hp, hr, hok⟩ := h
  obtain ⟨c0, c1, c2, f0, f1, f2⟩ := three_cells hh
  clear hh
  go_enter Try.func23, Try.ntmps23
  go_wp2_with fail
  refine (made_calls _ p t F HT.out).mono ?_
  rintro e w1 ⟨rfl, rfl⟩
  go_wp2
  go_ret
  exact ⟨rfl, rfl⟩
theorem room_calls (w : World) (p : Nat) (t : TS) (F : Nat → Prop) (h : TapeAt w p t F) : Calls Try.prog 44 #[.pointer (some ⟨p, 0, none⟩)] w fun e w' => e = .returned (.int .i64 t.room) ∧ w' = w := by
  have HT := Aside0.mk h
  obtain ⟨A, c, hh, hc, hp, hr, hok⟩ := h
  obtain ⟨c0, c1, c2, f0, f1, f2⟩ := three_cells hh
  clear hh
  go_enter Try.func44, Try.ntmps44
  go_wp2_with fail
  refine (made_calls _ p t F HT.out).mono ?_
  rintro e w1 ⟨rfl, rfl⟩
  go_wp2
  go_ret
  exact ⟨rfl, rfl⟩
theorem bytes_calls (w : World) (p : Nat) (t : TS) (F : Nat → Prop) (h : TapeAt w p t F) : Calls Try.prog 22 #[.pointer (some ⟨p, 0, none⟩)] w fun e w' => ∃ v, e = .returned v ∧ OB w' w.heap.size v t.bs ∧ Below w.heap.size w w' := by
  have HT := Aside0.mk h
  obtain ⟨A, c, hh, hc, hp, hr, hok⟩ := h
  obtain ⟨c0, c1, c2, f0, f1, f2⟩ := three_cells hh
  clear hh
  have HR := Aside0.mk hr.1
  have HL : Aside0 (t.bs.length ≤ 65536) := ⟨Nat.le_trans hok.2.2.1 hok.2.1⟩
  clear hr hok
  go_enter Try.func22, Try.ntmps22
  go_wp2_with fail
  refine (made_calls _ p t F HT.out).mono ?_
  rintro e w1 ⟨rfl, rfl⟩
  go_wp2_with fail
  refine (clone_calls _ A c t.bs HR.out (by have := HL.out; omega)).mono ?_
  rintro e w2 ⟨v, rfl, ho, hb⟩
  have HO := Aside0.mk ho
  have HB := Aside0.mk hb
  clear ho hb
  go_wp2_with fail
  go_ret
  exact ⟨_, rfl, HO.out, HB.out⟩
end Go.Proofs.Ytcnohnieoecpdaa.Oct
