import Derived.Test.YtcpkfkcemaihfaaOwn
import Derived.Test.YtcpkfkcemaihfaaCall
import Derived.Test.YtcpkfkcemaihfaaFClone
import Derived.Deep.RegionHeldLaw
import Derived.Deep.DrawnRows
/- Rows of texts in memory of the call's own; what a call lets. -/
namespace Go.Proofs.Ytcpkfkcemaihfaa.Oct
open Go.RowKit Go.Proofs.YtcpkfkcemaihfaaW.PrintWords Go.Proofs.Ytcpkfkcemaihfaa.M
set_option linter.unusedVariables false
set_option linter.unusedSimpArgs false
abbrev Bag := List (List Int)
/-- only blocks that F lets may have changed -/
structure Kept (W : World) (F : Nat → Prop) (W' : World) : Prop where
  os : W'.os = W.os
  tape : W'.tape = W.tape
  output : W'.output = W.output
  size : W.heap.size ≤ W'.heap.size
  block : ∀ k, k < W.heap.size → ¬ F k → W'.heap[k]? = W.heap[k]?
theorem grown_set (W : World) (p j : Nat) (v : Value) : W.grownBy (W.setCell ⟨p, j, none⟩ v) (some p) := ⟨rfl, rfl, rfl, by simp [World.setCell], fun k hk hne => Below.heap_setCell W ⟨p, j, none⟩ v k (fun e => hne (by rw [e]))⟩
theorem Kept.refl (W : World) (F : Nat → Prop) : Kept W F W := ⟨rfl, rfl, rfl, Nat.le_refl _, fun _ _ _ => rfl⟩
theorem Kept.of_below {W W' : World} (F : Nat → Prop) (h : Below W.heap.size W W') : Kept W F W' := by
  have g := grown_of_below h none
  exact ⟨g.os, g.tape, g.output, g.size, fun k hk _ => h.block k hk⟩
theorem Kept.of_grown {W W' : World} {F : Nat → Prop} {row : Option Nat} (h : W.grownBy W' row) (hp : ∀ k, row = some k → F k) : Kept W F W' := ⟨h.os, h.tape, h.output, h.size, fun k hk hf => h.block k hk (fun e => hf (hp k e.symm))⟩
theorem Kept.trans {W W1 W2 : World} {F G : Nat → Prop} (h : Kept W F W1) (h2 : Kept W1 G W2) (hG : ∀ k, k < W.heap.size → G k → F k) : Kept W F W2 :=
  ⟨h2.os.trans h.os, h2.tape.trans h.tape, h2.output.trans h.output, Nat.le_trans h.size h2.size, fun k hk hf => (h2.block k (Nat.lt_of_lt_of_le hk h.size) (fun hg => hf (hG k hk hg))).trans (h.block k hk hf)⟩
theorem below_kept {base : Nat} {W0 W W' : World} {F : Nat → Prop} (h0 : Below base W0 W) (h : Kept W F W') (hs : base ≤ W.heap.size) (hF : ∀ k, F k → base ≤ k) : Below base W0 W' :=
  h0.trans ⟨h.os, h.tape, h.output, h.size, fun k hk => h.block k (by omega) (fun hf => by have := hF k hf; omega)⟩
theorem below_draws (W : World) (n : Nat) : Below W.heap.size W (W.drewN n) := pw_below_drewN (Below.refl _ _) n
theorem OwnAt.type {W : World} {base : Nat} {e : TypeId} {size : Nat} {v : Value} {n : Nat} {xs : List Value} (h : OwnAt W base e size v n xs) {k : Nat} (hk : v.ownBlock = some k) : ∃ cur, W.heap[k]? = some (.cells cur e (0, 0)) := by
  rcases h.2 with ⟨rfl, _⟩ | ⟨g, off, cap, cur, rfl, _, hh, _⟩
  · cases hk
  · injection hk with hk
    dsimp only at hk
    subst hk
    exact ⟨cur, hh⟩
theorem OwnAt.ne {W : World} {base : Nat} {e t : TypeId} {size : Nat} {v : Value} {n : Nat} {xs : List Value} (h : OwnAt W base e size v n xs) {k p : Nat} (hk : v.ownBlock = some k) {cs : Array Value} {fr : Nat × Nat} (hp : W.heap[p]? = some (.cells cs t fr)) (hne : e ≠ t) : k ≠ p := by
  rintro rfl
  obtain ⟨cur, hc⟩ := h.type hk
  rw [hc] at hp
  injection hp with hp
  injection hp with _ hp
  exact hne hp
theorem info_row : (Try.prog.info? 38).map (fun i => (i.zero, i.size, i.bytes)) = some (some (.slice none 0 0), 1, 24) := by kernel_rfl
theorem one_cell {W : World} {b : Nat} {x : Value} {t : TypeId} (h : W.heap[b]? = some (.cells #[x] t (0, 0))) : W.cell? ⟨b, 0, none⟩ = some x ∧ W.frozen? ⟨b, 0, none⟩ = false := by
  refine ⟨?_, ?_⟩ <;> simp [World.cell?, World.frozen?, h]
theorem grown_below {W W1 W2 : World} {row : Option Nat} (h : Below W.heap.size W W1) (g : W1.grownBy W2 row) : W.grownBy W2 row := World.grownBy.trans (grown_of_below h row) g
theorem OwnAt.form {W : World} {base : Nat} {e : TypeId} {v : Value} {n : Nat} {xs : List Value} (h : OwnAt W base e 1 v n xs) : ∃ A c, v = .slice A n c ∧ n ≤ c ∧ c ≤ maxLen := by
  rcases h.2 with ⟨rfl, h0⟩ | ⟨g, off, cap, cur, rfl, _, _, h1, h2, _⟩
  · exact ⟨none, 0, by rw [h0], by omega, by simp [maxLen]⟩
  · exact ⟨_, _, rfl, h1, h2⟩
/-- one step of a region that draws: append(v, u) -/
theorem step_row {ops : Array Oper} {o : Oper} {a : Act} {K : Act → World → Prop} {Q : Exit → Act → World → Prop} {E : Prop} {W : World} (hgd : o.guard = none) (s x : Operand)
    (ho : o.op = .call { callee := .builtin .append, args := #[s, x], argTypes := #[23, 23] })
    (v : Value) (vs : List Value) (n : Nat) (u : Value) (g : Nat) (hs : a.eval s = v) (hx : a.eval x = .slice (some ⟨g, 0, none⟩) 1 1) (HO : OwnAt W 0 38 1 v n vs) (hb : W.heap[g]? = some (.cells #[u] 38 (0, 0))) (hu : u.oneCell' = true) (hl : n ≤ 1000000)
    (h : ∀ v1 w1, OwnAt w1 0 38 1 v1 (n + 1) (vs ++ [u]) → W.grownBy w1 v.ownBlock → (v1.ownBlock = v.ownBlock ∨ ∃ b, v1.ownBlock = some b ∧ W.heap.size ≤ b) → K (a.put o.dst v1) w1) :
    if Region.wanted o (yielded ops a.tmps) = true then Oper.wp Try.prog o a W K Q else E := by
  obtain ⟨i0, hi0, hz0, hz1, hz2⟩ := info_parts info_row
  refine step_append_at W hgd s x 23 ho 0 38 i0 (.slice none 0 0) 1 24 Try.underlying23 hi0 hz0 hz1 hz2 rfl Nat.zero_lt_one v n vs hs HO (some ⟨g, 0, none⟩) 1 1 [u] hx rfl (fun _ => ⟨_, rfl, fun j u' hu' => ?_⟩) (fun u' hu' => by rw [List.mem_singleton.1 hu']; exact hu) (by simp only [maxLen]; omega) (by omega) (Nat.zero_le _) ?_
  · have hj : j = 0 := by have := (List.getElem?_eq_some_iff.1 hu').1; simpa using this
    subst hj
    obtain rfl : u' = u := by simpa using hu'.symm
    rw [Addr.add_lit]
    exact (one_cell hb).1
  · exact h
theorem OwnAt.front {W : World} {base : Nat} {e : TypeId} {g off n c : Nat} {xs : List Value} (h : OwnAt W base e 1 (.slice (some ⟨g, off, none⟩) n c) n xs) {k : Nat} (hk : k ≤ n) : OwnAt W base e 1 (.slice (some ⟨g, off, none⟩) k k) k (xs.take k) := by
  have hl := h.1
  rcases h.2 with ⟨e1, _⟩ | ⟨g', off', cap, cur, e1, hb, hh, hc, hm, h6, h7⟩
  · cases e1
  · injection e1 with e1 e2 e3
    obtain ⟨rfl, rfl⟩ : g = g' ∧ off = off' := by simpa using e1
    subst e3
    refine ⟨by rw [List.length_take]; omega, .inr ⟨g, off, k, cur, rfl, hb, hh, Nat.le_refl _, by omega, by omega, ?_⟩⟩
    rw [← h7, List.take_take, Nat.min_eq_left (by omega), Nat.mul_one]
theorem OwnAt.at {W : World} {base : Nat} {e : TypeId} {g off n c : Nat} {xs : List Value} (h : OwnAt W base e 1 (.slice (some ⟨g, off, none⟩) n c) n xs) {k : Nat} {u : Value} (hk : xs[k]? = some u) : W.cell? ⟨g, off + k, none⟩ = some u := by
  obtain ⟨ad, e1, hc⟩ := h.cell hk
  injection e1 with e1
  rw [← e1, Addr.add_lit] at hc
  exact hc
/-- texts that are read, in blocks of bytes -/
structure Tls (W : World) (vs : List Value) (bag : Bag) : Prop where
  len : vs.length = bag.length
  own : ∀ (j : Nat) (u : Value) (l : List Int), vs[j]? = some u → bag[j]? = some l → QB W 0 u l
theorem Tls.mem {W : World} {vs : List Value} {bag : Bag} (h : Tls W vs bag) {u : Value} (hu : u ∈ vs) : ∃ l, QB W 0 u l := by
  obtain ⟨j, hj, rfl⟩ := List.getElem_of_mem hu
  exact ⟨_, h.own j _ _ (List.getElem?_eq_getElem hj) (List.getElem?_eq_getElem (by rw [← h.len]; exact hj))⟩
theorem Tls.move {W W' : World} {vs : List Value} {bag : Bag} (h : Tls W vs bag) (hb : ∀ u ∈ vs, ∀ k, u.ownBlock = some k → W'.heap[k]? = W.heap[k]?) : Tls W' vs bag :=
  ⟨h.len, fun j u l hu hl => (h.own j u l hu hl).move (hb u (List.mem_of_getElem? hu))⟩
theorem Tls.nil (W : World) : Tls W [] [] := ⟨rfl, fun j u l h => by simp at h⟩
theorem Tls.snoc {W : World} {vs : List Value} {bag : Bag} (h : Tls W vs bag) {u : Value} {l : List Int} (hu : QB W 0 u l) : Tls W (vs ++ [u]) (bag ++ [l]) := by
  refine ⟨by simp [h.len], fun j u' l' hu' hl' => ?_⟩
  rcases Nat.lt_or_ge j vs.length with hj | hj
  · rw [List.getElem?_append_left hj] at hu'
    rw [List.getElem?_append_left (by rw [← h.len]; exact hj)] at hl'
    exact h.own j u' l' hu' hl'
  · rw [List.getElem?_append_right hj] at hu'
    rw [List.getElem?_append_right (by rw [← h.len]; exact hj)] at hl'
    have hj0 : j - vs.length = 0 := by have := (List.getElem?_eq_some_iff.1 hu').1; simp at this; omega
    rw [hj0] at hu'
    rw [← h.len, hj0] at hl'
    obtain rfl : u' = u := by simpa using hu'.symm
    obtain rfl : l' = l := by simpa using hl'.symm
    exact hu
theorem Tls.drop {W : World} {vs : List Value} {bag : Bag} (h : Tls W vs bag) (n : Nat) : Tls W (vs.drop n) (bag.drop n) := by
  refine ⟨by rw [List.length_drop, List.length_drop, h.len], fun j u l hu hl => ?_⟩
  rw [List.getElem?_drop] at hu hl
  exact h.own _ u l hu hl
theorem OwnAt.rest {W : World} {base : Nat} {e : TypeId} {g off n c : Nat} {xs : List Value} (h : OwnAt W base e 1 (.slice (some ⟨g, off, none⟩) n c) n xs) {k : Nat} (hk : k ≤ n) : OwnAt W base e 1 (.slice (some ⟨g, if k = c then off else off + k, none⟩) (n - k) (c - k)) (n - k) (xs.drop k) := by
  have hl := h.1
  rcases h.2 with ⟨e1, _⟩ | ⟨g', off', cap, cur, e1, hb, hh, hc, hm, h6, h7⟩
  · cases e1
  · injection e1 with e1 e2 e3
    obtain ⟨rfl, rfl⟩ : g = g' ∧ off = off' := by simpa using e1
    subst e3
    refine ⟨by rw [List.length_drop]; omega, .inr ⟨g, _, c - k, cur, rfl, hb, hh, by omega, by omega, ?_, ?_⟩⟩
    · split <;> omega
    · rw [← h7]
      split
      · rename_i hkc
        have : n - k = 0 := by omega
        rw [this, Nat.zero_mul, List.take_zero, List.drop_eq_nil_of_le (by simp; omega)]
      · rw [List.drop_take, List.drop_drop]
        congr 1
        omega
/-- texts of one's own above a mark -/
def Txts (W : World) (base : Nat) (v : Value) (ls : Bag) : Prop := ∃ vs : List Value, vs.length = ls.length ∧ OwnAt W base 38 1 v ls.length vs ∧ ∀ (j : Nat) (u : Value) (l : List Int), vs[j]? = some u → ls[j]? = some l → QB W base u l
theorem Txts.nil (W : World) (base : Nat) : Txts W base (.slice none 0 0) [] := ⟨[], rfl, OwnAt.nil _ _ _ _, fun j u l h => by simp at h⟩
theorem Txts.move {W W' : World} {base : Nat} {v : Value} {ls : Bag} (h : Txts W base v ls) (hb : ∀ k, base ≤ k → k < W.heap.size → W'.heap[k]? = W.heap[k]?) : Txts W' base v ls := by
  obtain ⟨vs, h1, h2, h3⟩ := h
  exact ⟨vs, h1, h2.move (fun k e => hb k (h2.block e).1 (h2.block e).2), fun j u l hu hl => (h3 j u l hu hl).move (fun k e => hb k ((h3 j u l hu hl).block e).1 ((h3 j u l hu hl).block e).2)⟩
theorem Txts.below {W W' : World} {base : Nat} {v : Value} {ls : Bag} (h : Txts W base v ls) (hb : Below W.heap.size W W') : Txts W' base v ls := h.move (fun k _ hk => hb.block k hk)
theorem Txts.kept {W W' : World} {base : Nat} {F : Nat → Prop} {v : Value} {ls : Bag} (h : Txts W base v ls) (hk : Kept W F W') (hF : ∀ k, base ≤ k → ¬ F k) : Txts W' base v ls := h.move (fun k h1 h2 => hk.block k h2 (hF k h1))
theorem Txts.lower {W : World} {base base' : Nat} {v : Value} {ls : Bag} (h : Txts W base v ls) (hb : base' ≤ base) : Txts W base' v ls := by
  obtain ⟨vs, h1, h2, h3⟩ := h
  exact ⟨vs, h1, h2.lower hb, fun j u l hu hl => (h3 j u l hu hl).lower hb⟩
theorem Txts.form {W : World} {base : Nat} {v : Value} {ls : Bag} (h : Txts W base v ls) : ∃ A c, v = .slice A ls.length c ∧ ls.length ≤ c := by
  obtain ⟨vs, h1, h2, h3⟩ := h
  obtain ⟨A, c, e, h, _⟩ := h2.form
  exact ⟨A, c, e, h⟩
theorem Txts.get {W : World} {base n c : Nat} {A : Option Addr} {ls : Bag} (h : Txts W base (.slice A n c) ls) {k : Nat} (hk : k < ls.length) :
    ∃ g off Au du, A = some ⟨g, off, none⟩ ∧ W.cell? ⟨g, off + k, none⟩ = some (.slice Au (ls.getD k []).length du) ∧ QB W base (.slice Au (ls.getD k []).length du) (ls.getD k []) := by
  obtain ⟨vs, h1, h2, h3⟩ := h
  have hkv : k < vs.length := by omega
  have hvk := List.getElem?_eq_getElem hkv
  have hbk : ls[k]? = some (ls.getD k []) := by rw [List.getD_eq_getElem?_getD, List.getElem?_eq_getElem hk]; rfl
  have hq := h3 k _ _ hvk hbk
  obtain ⟨Au, du, hu1, _⟩ := hq.form
  rw [hu1] at hvk hq
  rcases h2.2 with ⟨_, h0⟩ | ⟨g, off, cap, cur, e, _⟩
  · omega
  · injection e with e1 e2 e3
    subst e1 e2
    exact ⟨g, off, Au, du, rfl, h2.at hvk, hq⟩
section
variable {ops : Array Oper} {rest : List Oper} {o : Oper} {a : Act} {Q : Exit → Act → World → Prop}
theorem app_txt {W : World} (base : Nat) (hgd : o.guard = none) (s x : Operand) (ho : o.op = .call { callee := .builtin .append, args := #[s, x], argTypes := #[23, 23] })
    (v : Value) (ls : Bag) (u : Value) (l : List Int) (g : Nat) (hs : a.eval s = v) (hx : a.eval x = .slice (some ⟨g, 0, none⟩) 1 1) (HO : Txts W base v ls) (hb : W.heap[g]? = some (.cells #[u] 38 (0, 0))) (HU : QB W base u l)
    (hbase : base ≤ W.heap.size) (hl : ls.length ≤ 1000000)
    (h : ∀ v1 w1, Txts w1 base v1 (ls ++ [l]) → W.grownBy w1 v.ownBlock → (∀ k, v.ownBlock = some k → base ≤ k) → wpList Try.prog ops Q rest (a.put o.dst v1) w1) :
    wpList Try.prog ops Q (o :: rest) a W := by
  obtain ⟨vs, h1, h2, h3⟩ := HO
  obtain ⟨i0, hi0, hz0, hz1, hz2⟩ := info_parts info_row
  have hu : u.oneCell' = true := by obtain ⟨_, _, rfl, _⟩ := HU.form; rfl
  refine wpList_append_at W hgd s x 23 ho base 38 i0 (.slice none 0 0) 1 24 Try.underlying23 hi0 hz0 hz1 hz2 rfl Nat.zero_lt_one v ls.length vs hs h2 (some ⟨g, 0, none⟩) 1 1 [u] hx rfl (fun _ => ⟨_, rfl, fun j u' hu' => ?_⟩) (fun u' hu' => by rw [List.mem_singleton.1 hu']; exact hu) (by simp only [maxLen]; omega) (by omega) hbase ?_
  · have hj : j = 0 := by have := (List.getElem?_eq_some_iff.1 hu').1; simpa using this
    subst hj
    obtain rfl : u' = u := by simpa using hu'.symm
    rw [Addr.add_lit]
    exact (one_cell hb).1
  · intro v1 w1 ho1 hg hn
    have hmv : ∀ {u' : Value} {l' : List Int}, QB W base u' l' → QB w1 base u' l' := fun {u' l'} hq => hq.move (fun k e => hg.block k (hq.block e).2 (fun e2 => by
      obtain ⟨cur, hc⟩ := h2.type e2.symm
      obtain ⟨cur2, hc2⟩ := OwnAt.type hq e
      rw [hc] at hc2
      injection hc2 with hc2
      injection hc2 with _ hc2
      exact absurd hc2 (by decide)))
    refine h v1 w1 ⟨vs ++ [u], by simp [h1], by rw [List.length_append]; exact ho1, fun j u' l' hu' hl' => ?_⟩ hg (fun k e => (h2.block e).1)
    rcases Nat.lt_or_ge j vs.length with hj | hj
    · rw [List.getElem?_append_left hj] at hu'
      rw [List.getElem?_append_left (by omega)] at hl'
      exact hmv (h3 j u' l' hu' hl')
    · rw [List.getElem?_append_right hj] at hu'
      rw [List.getElem?_append_right (by omega)] at hl'
      have hj0 : j - vs.length = 0 := by have := (List.getElem?_eq_some_iff.1 hu').1; simp at this; omega
      rw [hj0] at hu'
      rw [show j - ls.length = 0 by omega] at hl'
      obtain rfl : u' = u := by simpa using hu'.symm
      obtain rfl : l' = l := by simpa using hl'.symm
      exact hmv HU
end
end Go.Proofs.Ytcpkfkcemaihfaa.Oct
