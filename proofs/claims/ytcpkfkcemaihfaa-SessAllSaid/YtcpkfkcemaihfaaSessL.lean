import Derived.Test.YtcpkfkcemaihfaaSessK
import Derived.Test.YtcpkfkcemaihfaaFCopy
/- The document's Put. -/
namespace Go.Proofs.Ytcpkfkcemaihfaa.Oct
open Go.RowKit Go.Proofs.YtcpkfkcemaihfaaW.PrintWords Go.Proofs.Ytcpkfkcemaihfaa.M
set_option linter.unusedVariables false
set_option linter.unusedSimpArgs false
/-- one step of a region that draws: append(v, item), the item in a block of its own -/
theorem step_item {ops : Array Oper} {o : Oper} {a : Act} {K : Act → World → Prop} {Q : Exit → Act → World → Prop} {E : Prop} {W : World} (hgd : o.guard = none) (s x : Operand)
    (ho : o.op = .call { callee := .builtin .append, args := #[s, x], argTypes := #[56, 56] })
    (v : Value) (n g : Nat) (z : Int) (B : Option Addr) (m c : Nat) (vs : List Value) (hs : a.eval s = v) (hx : a.eval x = .slice (some ⟨g, 0, none⟩) 1 1) (e1 : OwnAt W 0 69 2 v n vs) (hb : W.heap[g]? = some (.cells #[.int .i64 z, .slice B m c] 69 (0, 0))) (hl : n ≤ 1000000000)
    (h : ∀ A1 c1 w1, OwnAt w1 0 69 2 (.slice A1 (n + 1) c1) (n + 1) (vs ++ [.int .i64 z, .slice B m c]) → W.grownBy w1 v.ownBlock → ((Value.slice A1 (n + 1) c1).ownBlock = v.ownBlock ∨ ∃ b, (Value.slice A1 (n + 1) c1).ownBlock = some b ∧ W.heap.size ≤ b) → K (a.put o.dst (.slice A1 (n + 1) c1)) w1) :
    if Region.wanted o (yielded ops a.tmps) = true then Oper.wp Try.prog o a W K Q else E := by
  obtain ⟨i0, hi0, hz0, hz1, hz2⟩ := info_parts info_item
  refine step_append_at W hgd s x 56 ho 0 69 i0 (.agg #[.int .i64 0, .slice none 0 0]) 2 32 Try.underlying56 hi0 hz0 hz1 hz2 rfl (by decide) v n vs hs e1 (some ⟨g, 0, none⟩) 1 1 [.int .i64 z, .slice B m c] hx rfl (fun _ => ⟨_, rfl, fun j u' hu' => ?_⟩) (fun u' hu' => ?_) (by simp only [maxLen]; omega) (by omega) (Nat.zero_le _) ?_
  · have x0 : W.cell? ⟨g, 0, none⟩ = some (.int .i64 z) := by simp [World.cell?, hb]
    have x1 : W.cell? ⟨g, 1, none⟩ = some (.slice B m c) := by simp [World.cell?, hb]
    match j, hu' with
    | 0, hu' => simp at hu'; subst hu'; simpa [Addr.add] using x0
    | 1, hu' => simp at hu'; subst hu'; simpa [Addr.add] using x1
  · rcases List.mem_cons.1 hu' with rfl | hu'
    · rfl
    · obtain rfl := List.mem_singleton.1 hu'
      rfl
  · intro v1 w1 ho1 hg hn
    obtain ⟨A1, c1, rfl, _⟩ := own_form ho1
    exact h A1 c1 w1 ho1 hg hn
theorem dend_cell {w W w1 : World} {p n : Nat} {a b c d v : Value} {vs : List Value} (hh : w.heap[p]? = some (.cells #[a, b, v, c, d] 58 (0, 0))) (ho : OwnAt w 0 69 2 v n vs) (hb : Below w.heap.size w W) (hg : W.grownBy w1 v.ownBlock) : w1.heap[p]? = some (.cells #[a, b, v, c, d] 58 (0, 0)) := by
  have hpl := (Array.getElem?_eq_some_iff.1 hh).1
  exact (hg.block p (Nat.lt_of_lt_of_le hpl hb.size) (fun e => ho.ne e.symm hh (by decide) rfl)).trans ((hb.block p hpl).trans hh)
set_option maxRecDepth 200000 in
set_option maxHeartbeats 8000000 in
theorem dput_calls (w : World) (p : Nat) (s : Es) (F : Nat → Prop) (A : Option Addr) (c : Nat) (ys : List Int) (h : REnd w p s F) (hy : Kd.C (Kd.int .u8) w A ys.length ys) (hb : Bytes ys) :
    Calls Try.prog 19 #[.pointer (some ⟨p, 0, none⟩), .slice A ys.length c] w (RetD w p F (s.put ys).1 (s.put ys).2) := by
  have HT := Aside0.mk h
  have hyl : ys.length ≤ 9223372036854775807 := hy.2.1
  have HY := Aside0.mk hy
  have HOK2 := Aside0.mk (Es.put_ok h.is.2.2 hb)
  obtain ⟨v, hh, ⟨vs, ho, hk, he⟩, hp, hok⟩ := h
  have hl : s.q.length ≤ 64 := hok.2.2.1
  have hfl : s.first + s.q.length ≤ 65535 := hok.2.2.2.2.1
  have HA := Aside0.mk (And.intro hh (And.intro ho (And.intro hk (And.intro he hp))))
  obtain ⟨B, d, rfl, hd⟩ := own_form ho
  obtain ⟨⟨c0, c1, c2, c3, c4⟩, f0, f1, f2, f3, f4⟩ := five_cells hh
  obtain ⟨n, hn⟩ : ∃ n, n = s.q.length := ⟨_, rfl⟩
  obtain ⟨M, hM⟩ : ∃ M, M = s.first + n := ⟨_, rfl⟩
  have HN := Aside0.mk hn
  have HMM := Aside0.mk hM
  rw [← hn] at c2 c3 hl hd
  rw [← hM] at c3
  have hcase : (s.put ys = (s, 1) ∧ ys.length = 0) ∨ (s.put ys = (s, 2) ∧ ys.length ≠ 0 ∧ 256 < ys.length) ∨ (s.put ys = (s, 5) ∧ ys.length ≠ 0 ∧ ¬ 256 < ys.length ∧ 64 ≤ n) ∨ (s.put ys = (s, 91) ∧ ys.length ≠ 0 ∧ ¬ 256 < ys.length ∧ ¬ 64 ≤ n ∧ 65535 ≤ M) ∨ (s.put ys = ({ s with q := s.q ++ [ys] }, 0) ∧ ys.length ≠ 0 ∧ ¬ 256 < ys.length ∧ ¬ 64 ≤ n ∧ ¬ 65535 ≤ M) := by
    unfold Es.put
    rw [← hn, ← hM]
    by_cases h1 : ys.length = 0
    · rw [if_pos h1]; exact .inl ⟨rfl, h1⟩
    rw [if_neg h1]
    by_cases h2 : 256 < ys.length
    · rw [if_pos h2]; exact .inr (.inl ⟨rfl, h1, h2⟩)
    rw [if_neg h2]
    by_cases h3 : 64 ≤ n
    · rw [if_pos h3]; exact .inr (.inr (.inl ⟨rfl, h1, h2, h3⟩))
    rw [if_neg h3]
    by_cases h4 : 65535 ≤ M
    · rw [if_pos h4]; exact .inr (.inr (.inr (.inl ⟨rfl, h1, h2, h3, h4⟩)))
    rw [if_neg h4]
    exact .inr (.inr (.inr (.inr ⟨rfl, h1, h2, h3, h4⟩)))
  clear hh ho he hp hk hok hy hb hn hM
  obtain ⟨m, hm2⟩ : ∃ m, m = ys.length := ⟨_, rfl⟩
  have HM := Aside0.mk hm2
  rw [← hm2] at hcase hyl ⊢
  clear hm2
  rcases hcase with ⟨hV, h1⟩ | ⟨hV, h1, h2⟩ | ⟨hV, h1, h2, h3⟩ | ⟨hV, h1, h2, h3, h4⟩ | ⟨hV, h1, h2, h3, h4⟩
  · have HV := Aside0.mk hV
    have b0 : ((m : Int) == 0) = true := by simp; omega
    clear hV h1
    go_enter Try.func19, Try.ntmps19
    go_wp2_with fail
    go_ret
    rw [HV.out]
    exact retd_same HT.out (Below.refl _ _)
  · have HV := Aside0.mk hV
    have b0 : ((m : Int) == 0) = false := by simp; omega
    have b1 : 256 < (m : Int) := by omega
    clear hV h1 h2
    go_enter Try.func19, Try.ntmps19
    go_wp2_with fail
    go_ret
    rw [HV.out]
    exact retd_same HT.out (Below.refl _ _)
  · have HV := Aside0.mk hV
    have b0 : ((m : Int) == 0) = false := by simp; omega
    have b1 : ¬ 256 < (m : Int) := by omega
    have b2 : 64 ≤ (n : Int) := by omega
    clear hV h1 h2 h3
    go_enter Try.func19, Try.ntmps19
    go_wp2_with fail
    go_ret
    rw [HV.out]
    exact retd_same HT.out (Below.refl _ _)
  · have HV := Aside0.mk hV
    have b0 : ((m : Int) == 0) = false := by simp; omega
    have b1 : ¬ 256 < (m : Int) := by omega
    have b2 : ¬ 64 ≤ (n : Int) := by omega
    have b3 : decide (65534 < (M : Int)) = true := decide_eq_true (by omega)
    clear hV h1 h2 h3 h4
    go_enter Try.func19, Try.ntmps19
    go_wp2_with fail
    go_ret
    rw [HV.out]
    exact retd_same HT.out (Below.refl _ _)
  · have HV := Aside0.mk hV
    have HLB : Aside0 (n ≤ 1000000000) := ⟨by omega⟩
    have HLY : Aside0 (ys.length ≤ 140737488355328) := ⟨by rw [← HM.out]; omega⟩
    have HOK3 : Aside0 (Es.ok { s with q := s.q ++ [ys] }) := ⟨by have := HOK2.out; rw [hV] at this; exact this⟩
    have b0 : ((m : Int) == 0) = false := by simp; omega
    have b1 : ¬ 256 < (m : Int) := by omega
    have b2 : ¬ 64 ≤ (n : Int) := by omega
    have b3 : decide (65534 < (M : Int)) = false := decide_eq_false (by omega)
    obtain ⟨N, hN⟩ : ∃ N : Int, N = (M : Int) + 1 := ⟨_, rfl⟩
    have g4 : (M : Int) + 1 = N := hN.symm
    have g5 : IntKind.i64.wrap ((M : Int) + 1) = N := by rw [IntWalk.i64_in _ (by omega)]; omega
    have g6 : IntKind.i64.wrap N = N := IntWalk.i64_in _ (by omega)
    have HNN := Aside0.mk hN
    have HBD : Aside0 (Below w.heap.size w w.drew) := ⟨below_drew (Below.refl _ _)⟩
    have HPN : Aside0 (∀ W, Below w.heap.size w W → W.cell? ⟨p, 2, none⟩ = some (.slice B n d) ∧ W.cell? ⟨p, 3, none⟩ = some (.int .i64 M)) := ⟨fun W hW => ⟨(hW.cell (World.block_lt_of_cell? _ _ c2)).trans c2, (hW.cell (World.block_lt_of_cell? _ _ c3)).trans c3⟩⟩
    have HCL : Aside0 (∀ W, Below w.heap.size w W → Calls Try.prog 18 #[.slice A m c] W (fun e W' => ∃ A2 c2, e = .returned (.slice A2 m c2) ∧ OB W' w.heap.size (.slice A2 m c2) ys ∧ Below w.heap.size w W')) := ⟨fun W hW => by
      have := copy_calls W A c ys (Kd.C_below HY.out hW) HLY.out
      rw [← HM.out] at this
      refine this.mono ?_
      rintro e W' ⟨v, rfl, ho, hb⟩
      obtain ⟨A2, c2, rfl, _⟩ := ho.reads
      rw [← HM.out] at ho ⊢
      exact ⟨A2, c2, rfl, ho.lower hW.size, hW.trans (hb.mono hW.size)⟩⟩
    have HV2 : Aside0 (∀ W, Below w.heap.size w W → OwnAt W 0 69 2 (.slice B n d) n vs) := ⟨fun W hW => by
      have := HA.out.2.1.move (fun k e => hW.block k (HA.out.2.1.block e).2)
      rw [← HN.out] at this
      exact this⟩
    obtain ⟨hp2, hp3⟩ := HPN.out _ HBD.out
    clear hV h1 h2 h3 h4 c0 c1 c4 f0 f1 f2 f3 f4 hd hl hfl hyl hN
    go_enter Try.func19, Try.ntmps19
    go_wp2_with fail
    go_region_law
      (first
       | (refine step_call (by rfl) 18 #[.tmp 31] #[38] (by rfl) #[.slice A m c] (by rfl) Try.f18 Try.func18 (by kernel_rfl) (by kernel_rfl) ?_; refine (HCL.out _ (by first | exact HBD.out | exact Below.refl _ _)).mono ?_; rintro e wc ⟨A2, c2', rfl, hou, hbc⟩; have HOU := Aside0.mk hou; have HBC := Aside0.mk hbc; obtain ⟨x0, x2⟩ := HPN.out _ HBC.out; obtain ⟨x1, x3⟩ := HPN.out _ (below_alloc HBC.out (.cells #[.int .i64 M, .slice A2 m c2'] 69)); clear hou hbc; refine ⟨_, rfl, ?_⟩)
       | (refine step_item rfl (.tmp 26) (.tmp 34) rfl (.slice B n d) n wc.heap.size M A2 m c2' vs rfl rfl (HV2.out _ (by first | exact below_alloc HBC.out _ | exact below_drew (below_alloc HBC.out _))) (by exact heap_alloc_new wc _) HLB.out ?_; intro A1 d1 w4 ho1 hg1 hn1; have HG0 : Aside0 (wc.grownBy w4 (Value.slice B n d).ownBlock) := ⟨by first | exact grown_below (below_alloc (Below.refl _ _) _) hg1 | exact grown_below (below_drew (below_alloc (Below.refl _ _) _)) hg1⟩; have hw1 := dend_cell HA.out.1 HA.out.2.1 HBC.out (by rw [← HN.out]; exact HG0.out); obtain ⟨⟨_, _, e0, e3, _⟩, _, _, g0, g3, _⟩ := five_cells hw1; rw [← HN.out, ← HMM.out] at e3; have HO1 := Aside0.mk ho1; have HN1 : Aside0 ((Value.slice A1 (n + 1) d1).ownBlock = (Value.slice B n d).ownBlock ∨ ∃ b, (Value.slice A1 (n + 1) d1).ownBlock = some b ∧ wc.heap.size ≤ b) := ⟨hn1.imp id (fun ⟨b, e, h⟩ => ⟨b, e, Nat.le_trans (by simp) h⟩)⟩; clear ho1 hg1 hn1 hw1))
    all_goals
      go_wp2_with fail
      go_ret
      rw [HV.out]
      have ho1 := HO1.out
      have hg0 := HG0.out
      have hn1 := HN1.out
      have hnn := HNN.out
      rw [HMM.out] at ho1 hnn
      rw [HN.out] at ho1 hg0 hn1 hnn ⊢
      exact dput_close HA.out.1 HA.out.2.1 HA.out.2.2.1 HA.out.2.2.2.1 HA.out.2.2.2.2 HOK3.out HBC.out HOU.out ho1 hg0 hn1 hnn
end Go.Proofs.Ytcpkfkcemaihfaa.Oct
