import Derived.Test.YtpkclecgaheplaaRPathA
namespace Go.Proofs.YtpkclecgaheplaaR.Oct
open Go.RowKit Go.Proofs.YtpkclecgaheplaaRW.PrintWords Go.Proofs.YtpkclecgaheplaaR.M
set_option linter.unusedVariables false
set_option linter.unusedSimpArgs false
theorem grown_below {W W1 W2 : World} {row : Option Nat} (h : Below W.heap.size W W1) (g : W1.grownBy W2 row) : W.grownBy W2 row := World.grownBy.trans (grown_of_below h row) g
theorem OwnAt.form {W : World} {base : Nat} {e : TypeId} {v : Value} {n : Nat} {xs : List Value} (h : OwnAt W base e 1 v n xs) : ∃ A c, v = .slice A n c ∧ n ≤ c ∧ c ≤ maxLen := by
  rcases h.2 with ⟨rfl, h0⟩ | ⟨g, off, cap, cur, rfl, _, _, h1, h2, _⟩
  · exact ⟨none, 0, by rw [h0], by omega, by simp [maxLen]⟩
  · exact ⟨_, _, rfl, h1, h2⟩
/-- one step of a region that draws: append(v, u) -/
theorem step_row {ops : Array Oper} {o : Oper} {a : Act} {K : Act → World → Prop} {Q : Exit → Act → World → Prop} {E : Prop} {W : World} (hgd : o.guard = none) (s x : Operand)
    (ho : o.op = .call { callee := .builtin .append, args := #[s, x], argTypes := #[50, 50] })
    (v : Value) (vs : List Value) (n : Nat) (u : Value) (g : Nat) (hs : a.eval s = v) (hx : a.eval x = .slice (some ⟨g, 0, none⟩) 1 1) (HO : OwnAt W 0 28 1 v n vs) (hb : W.heap[g]? = some (.cells #[u] 28 (0, 0))) (hu : u.oneCell' = true) (hl : n ≤ 1000000)
    (h : ∀ v1 w1, OwnAt w1 0 28 1 v1 (n + 1) (vs ++ [u]) → W.grownBy w1 v.ownBlock → (v1.ownBlock = v.ownBlock ∨ ∃ b, v1.ownBlock = some b ∧ W.heap.size ≤ b) → K (a.put o.dst v1) w1) :
    if Region.wanted o (yielded ops a.tmps) = true then Oper.wp Try.prog o a W K Q else E := by
  obtain ⟨i0, hi0, hz0, hz1, hz2⟩ := info_parts info_row
  refine step_append_at W hgd s x 50 ho 0 28 i0 (.slice none 0 0) 1 24 Try.underlying50 hi0 hz0 hz1 hz2 rfl Nat.zero_lt_one v n vs hs HO (some ⟨g, 0, none⟩) 1 1 [u] hx rfl (fun _ => ⟨_, rfl, fun j u' hu' => ?_⟩) (fun u' hu' => by rw [List.mem_singleton.1 hu']; exact hu) (by simp only [maxLen]; omega) (by omega) (Nat.zero_le _) ?_
  · have hj : j = 0 := by have := (List.getElem?_eq_some_iff.1 hu').1; simpa using this
    subst hj
    obtain rfl : u' = u := by simpa using hu'.symm
    rw [Addr.add_lit]
    exact (one_cell hb).1
  · exact h
theorem send_nil' (w : World) (v : Value) : Calls Try.prog 8 #[.pointer none, v] w fun e w' => e = .returned (.int .i64 6) ∧ w' = w := by
  go_enter Try.func8, Try.ntmps8
  go_wp2
  go_ret
  exact ⟨rfl, rfl⟩
theorem path_cell {w W w1 : World} {p n : Nat} {v : Value} {vs : List Value} (hh : w.heap[p]? = some (.cells #[v] 53 (0, 0))) (ho : OwnAt w 0 28 1 v n vs) (hb : Below w.heap.size w W) (hg : W.grownBy w1 v.ownBlock) : w1.heap[p]? = some (.cells #[v] 53 (0, 0)) := by
  have hpl := (Array.getElem?_eq_some_iff.1 hh).1
  exact (hg.block p (Nat.lt_of_lt_of_le hpl hb.size) (fun e => ho.ne e.symm hh (by decide) rfl)).trans ((hb.block p hpl).trans hh)
/-- what Send leaves behind its store -/
theorem send_close {w wc w1 : World} {p : Nat} {bag : Bag} {F : Nat → Prop} {v u v1 : Value} {vs : List Value} {ys : List Int} (hh : w.heap[p]? = some (.cells #[v] 53 (0, 0))) (ho : OwnAt w 0 28 1 v bag.length vs) (he : Els w vs bag) (hp : F p) (hk : ∀ k, v.ownBlock = some k → F k) (hu : ∀ u ∈ vs, ∀ k, u.ownBlock = some k → F k) (hok : Bag.ok (bag ++ [ys]))
    (hb : Below w.heap.size w wc) (hcu : OB wc w.heap.size u ys) (h1 : OwnAt w1 0 28 1 v1 (bag.length + 1) (vs ++ [u])) (hg : wc.grownBy w1 v.ownBlock) (hn : v1.ownBlock = v.ownBlock ∨ ∃ b, v1.ownBlock = some b ∧ wc.heap.size ≤ b) :
    RetP w p F (bag ++ [ys]) 0 (.returned (.int .i64 0)) (w1.setCell ⟨p, 0, none⟩ v1) := by
  have hpl : p < w.heap.size := (Array.getElem?_eq_some_iff.1 hh).1
  have hhc := (hb.block p hpl).trans hh
  have hne : ∀ k, v.ownBlock = some k → k ≠ p := fun k e => ho.ne e hh (by decide)
  have hh1 : w1.heap[p]? = some (.cells #[v] 53 (0, 0)) := (hg.block p (Nat.lt_of_lt_of_le hpl hb.size) (fun e => hne p e.symm rfl)).trans hhc
  have hs := grown_set w1 p 0 v1
  have hgs : wc.heap.size ≤ (w1.setCell ⟨p, 0, none⟩ v1).heap.size := Nat.le_trans hg.size hs.size
  -- a text's block stays
  have hmv : ∀ x l, QB wc 0 x l → ∀ k, x.ownBlock = some k → (w1.setCell ⟨p, 0, none⟩ v1).heap[k]? = wc.heap[k]? := fun x l hq k e => by
    have hkl := (hq.block e).2
    have hkp : k ≠ p := OwnAt.ne hq e hhc (by decide)
    have hkv : some k ≠ v.ownBlock := fun e2 => by
      obtain ⟨cur, hc⟩ := (ho.move (fun k e => hb.block k (ho.block e).2)).type e2.symm
      obtain ⟨cur2, hc2⟩ := OwnAt.type hq e
      rw [hc] at hc2
      injection hc2 with hc2
      injection hc2 with _ hc2
      exact absurd hc2 (by decide)
    exact (hs.block k (Nat.lt_of_lt_of_le hkl hg.size) (fun e => hkp (by injection e))).trans (hg.block k hkl hkv)
  have hec : Els wc vs bag := he.move (fun x hx k e => by obtain ⟨l, hq⟩ := he.mem hx; exact hb.block k (hq.block e).2)
  have hqu : QB wc 0 u ys := (QB.of_OB hcu).lower (Nat.zero_le _)
  refine ⟨rfl, ⟨v1, vs ++ [u], heap_set v1 hh1, ?_, ?_, .inl hp, ?_, ?_, hok⟩, ?_⟩
  · rw [List.length_append]
    refine h1.move (fun k e => hs.block k (h1.block e).2 (fun e2 => ?_))
    injection e2 with e2
    exact h1.ne e hh1 (by decide) e2
  · refine (hec.snoc hqu (fun k e x hx e2 => ?_)).move (fun x hx k e => ?_)
    · obtain ⟨l, hq⟩ := he.mem hx
      have h1 := (hq.block e2).2
      have h2 := own_base hcu k e
      omega
    · rcases List.mem_append.1 hx with hx | hx
      · obtain ⟨l, hq⟩ := hec.mem hx
        exact hmv x l hq k e
      · obtain rfl : x = u := by simpa using hx
        exact hmv x ys hqu k e
  · intro k e
    rcases hn with h | ⟨b, h, hb'⟩
    · rw [h] at e; exact .inl (hk k e)
    · rw [h] at e
      injection e with e
      subst e
      exact .inr (Nat.le_trans hb.size hb')
  · intro x hx k e
    rcases List.mem_append.1 hx with hx | hx
    · exact .inl (hu x hx k e)
    · obtain rfl : x = u := by simpa using hx
      exact .inr (own_base hcu k e)
  · refine ((Kept.of_below F hb).trans (Kept.of_grown (F := F) hg hk) (fun _ _ h => h)).trans (Kept.of_grown (F := F) hs (fun k e => by injection e with e; subst e; exact hp)) (fun _ _ h => h)
attribute [local go_sem ↓] Go.wp_at_zero Go.wp_at_succ
set_option maxRecDepth 20000 in
set_option maxHeartbeats 8000000 in
theorem psend_calls (w : World) (p : Nat) (bag : Bag) (F : Nat → Prop) (A : Option Addr) (c : Nat) (ys : List Int) (h : PathAt w p bag F) (hy : Kd.C (Kd.int .u8) w A ys.length ys) (hb : Bytes ys) :
    Calls Try.prog 8 #[.pointer (some ⟨p, 0, none⟩), .slice A ys.length c] w (RetP w p F (sendB bag ys).1 (sendB bag ys).2) := by
  have HT := Aside0.mk h
  have hyl : ys.length ≤ 9223372036854775807 := hy.2.1
  have HY := Aside0.mk hy
  by_cases h1 : 512 < ys.length
  · have HV : Aside0 (sendB bag ys = (bag, 2)) := ⟨by unfold sendB; rw [if_pos h1]⟩
    have h1' : 512 < (ys.length : Int) := by omega
    clear h hy h1
    go_enter Try.func8, Try.ntmps8
    go_wp2
    go_ret
    rw [HV.out]
    exact retp_same HT.out (Below.refl _ _)
  obtain ⟨v, vs, hh, ho, he, hp, hk, hu, hok⟩ := h
  have hl : bag.length ≤ 256 := hok.1
  have HA := Aside0.mk (And.intro hh (And.intro ho (And.intro he (And.intro hp (And.intro hk hu)))))
  obtain ⟨B, d, rfl, hd, hm⟩ := ho.form
  obtain ⟨c0, f0⟩ := one_cell hh
  have h1' : (ys.length : Int) ≤ 512 := by omega
  by_cases h2 : 256 ≤ bag.length
  · have HV : Aside0 (sendB bag ys = (bag, 5)) := ⟨by unfold sendB; rw [if_neg h1, if_pos h2]⟩
    have h2' : 256 ≤ (bag.length : Int) := by omega
    clear hh ho he hp hk hu hok hy h1 h2 hb
    go_enter Try.func8, Try.ntmps8
    go_wp2
    go_ret
    rw [HV.out]
    exact retp_same HT.out (Below.refl _ _)
  · have HV : Aside0 (sendB bag ys = (bag ++ [ys], 0)) := ⟨by unfold sendB; rw [if_neg h1, if_neg h2]⟩
    have HOK2 := Aside0.mk (Bag.ok_snoc hok (by omega) (ys := ys) (by omega) hb)
    have h2' : (bag.length : Int) < 256 := by omega
    have HLY : Aside0 (ys.length ≤ 140737488355328) := ⟨by omega⟩
    have HLB : Aside0 (bag.length ≤ 1000000) := ⟨by omega⟩
    have HPN : Aside0 (∀ W, Below w.heap.size w W → W.cell? ⟨p, 0, none⟩ = some (.slice B bag.length d)) := ⟨fun W hW => (hW.cell (World.block_lt_of_cell? _ _ c0)).trans c0⟩
    clear hh ho he hp hk hu hok hy h1 h2 hb
    go_enter Try.func8, Try.ntmps8
    go_wp2_with fail
    go_region_law
      (first
       | (refine step_call (by rfl) 22 #[.tmp 24] #[28] (by rfl) #[.slice A ys.length c] (by rfl) Try.f22 Try.func22 (by kernel_rfl) (by kernel_rfl) ?_; refine (clone_calls _ A c ys (Kd.C_below HY.out (by first | exact Below.refl _ _ | exact below_drew (Below.refl _ _))) HLY.out).mono ?_; rintro e wc ⟨u, rfl, hou, hbc⟩; obtain ⟨A2, c2, rfl, _⟩ := hou.reads; have HOU := Aside0.mk hou; have HBC : Aside0 (Below w.heap.size w wc) := ⟨by first | exact hbc | exact (below_drew (Below.refl w.heap.size w)).trans hbc⟩; have x0 := HPN.out _ HBC.out; have x1 := HPN.out _ (below_alloc HBC.out (.cells #[.slice A2 ys.length c2] 28)); clear hou hbc; refine ⟨_, rfl, ?_⟩)
       | (refine step_row rfl (.tmp 23) (.tmp 26) rfl (.slice B bag.length d) vs bag.length (.slice A2 ys.length c2) wc.heap.size rfl rfl (by first | exact (HA.out.2.1.move (fun k e => HBC.out.block k (HA.out.2.1.block e).2)).move (fun k e => (below_alloc (Below.refl _ _) _).block k (Nat.lt_of_lt_of_le (HA.out.2.1.block e).2 HBC.out.size)) | exact (HA.out.2.1.move (fun k e => HBC.out.block k (HA.out.2.1.block e).2)).move (fun k e => (below_drew (below_alloc (Below.refl _ _) _)).block k (Nat.lt_of_lt_of_le (HA.out.2.1.block e).2 HBC.out.size))) (by exact heap_alloc_new wc _) rfl HLB.out ?_; intro v1 w1 ho1 hg1 hn1; obtain ⟨A1, d1, rfl, _⟩ := ho1.form; have HG0 : Aside0 (wc.grownBy w1 (Value.slice B bag.length d).ownBlock) := ⟨by first | exact grown_below (below_alloc (Below.refl _ _) _) hg1 | exact grown_below (below_drew (below_alloc (Below.refl _ _) _)) hg1⟩; have hw1 := path_cell HA.out.1 HA.out.2.1 HBC.out HG0.out; obtain ⟨e0, g0⟩ := one_cell hw1; have HO1 := Aside0.mk ho1; have HN1 : Aside0 ((Value.slice A1 (bag.length + 1) d1).ownBlock = (Value.slice B bag.length d).ownBlock ∨ ∃ b, (Value.slice A1 (bag.length + 1) d1).ownBlock = some b ∧ wc.heap.size ≤ b) := ⟨hn1.imp id (fun ⟨b, e, h⟩ => ⟨b, e, Nat.le_trans (by simp) h⟩)⟩; clear ho1 hg1 hn1 hw1))
    all_goals
      go_wp2_with fail
      go_ret
      rw [HV.out]
      exact send_close HA.out.1 HA.out.2.1 HA.out.2.2.1 HA.out.2.2.2.1 HA.out.2.2.2.2.1 HA.out.2.2.2.2.2 HOK2.out HBC.out (HOU.out.lower (by first | exact Nat.le_refl _ | simp)) HO1.out HG0.out HN1.out
end Go.Proofs.YtpkclecgaheplaaR.Oct
