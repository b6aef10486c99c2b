import Derived.Test.YtcnohnieoecpdaaWalJ
/- WalBack's walk. -/
namespace Go.Proofs.Ytcnohnieoecpdaa.Oct
open Go.RowKit Go.Proofs.YtcnohnieoecpdaaW.PrintWords Go.Proofs.Ytcnohnieoecpdaa.M
set_option linter.unusedVariables false
set_option linter.unusedSimpArgs false
theorem info_int : (Try.prog.info? 3).map (fun i => (i.zero, i.size, i.bytes)) = some (some (.int .i64 0), 1, 8) := by kernel_rfl
theorem own_at_type {W : World} {base : Nat} {e : TypeId} {size : Nat} {v : Value} {n : Nat} {xs : List Value} (h : OwnAt W base e size v n xs) {k : Nat} (hk : v.ownBlock = some k) : ∃ cur, W.heap[k]? = some (.cells cur e (0, 0)) := by
  rcases h.2 with ⟨rfl, _⟩ | ⟨g, off, cap, cur, rfl, _, hh, _⟩
  · cases hk
  · injection hk with hk
    dsimp only at hk
    subst hk
    exact ⟨cur, hh⟩
theorem own_at_apart {W : World} {b1 b2 : Nat} {e1 e2 : TypeId} {s1 s2 : Nat} {v1 v2 : Value} {n1 n2 : Nat} {xs1 xs2 : List Value} (h1 : OwnAt W b1 e1 s1 v1 n1 xs1) (h2 : OwnAt W b2 e2 s2 v2 n2 xs2) (hne : e1 ≠ e2) : ∀ k, v1.ownBlock = some k → some k ≠ v2.ownBlock := by
  intro k hk e
  obtain ⟨cur, hc⟩ := own_at_type h1 hk
  obtain ⟨cur2, hc2⟩ := own_at_type h2 e.symm
  rw [hc] at hc2
  injection hc2 with hc2
  injection hc2 with _ hc2
  exact hne hc2
/-- numbers in memory of the call's own -/
def OI (W : World) (base : Nat) (v : Value) (xs : List Int) : Prop := OwnAt W base 3 1 v xs.length (nums .i64 xs)
theorem OI.nil (W : World) (base : Nat) : OI W base (.slice none 0 0) [] := OwnAt.nil W base _ 1
theorem OI.move {W W' : World} {base : Nat} {v : Value} {xs : List Int} (h : OI W base v xs) (hb : ∀ k, v.ownBlock = some k → W'.heap[k]? = W.heap[k]?) : OI W' base v xs := OwnAt.move h hb
theorem OI.below {W W' : World} {base : Nat} {v : Value} {xs : List Int} (h : OI W base v xs) (hb : Below W.heap.size W W') : OI W' base v xs := h.move (fun k hk => hb.block k (OwnAt.block h hk).2)
theorem OI.form {W : World} {base : Nat} {v : Value} {xs : List Int} (h : OI W base v xs) : ∃ A c, v = .slice A xs.length c ∧ xs.length ≤ c := by
  rcases h.2 with ⟨rfl, hn⟩ | ⟨g, off, cap, cur, rfl, hb, hh, hc, _⟩
  · exact ⟨none, 0, by rw [hn], by omega⟩
  · exact ⟨_, cap, rfl, hc⟩
theorem OI.at {W : World} {base c : Nat} {A : Option Addr} {xs : List Int} (h : OI W base (.slice A xs.length c) xs) {j : Nat} (hj : j < xs.length) : ∃ ad, A = some ad ∧ W.cell? (ad.add j) = some (.int .i64 (xs.getD j 0)) :=
  OwnAt.cell h (by simp [nums, List.getElem?_eq_getElem hj, List.getD_eq_getElem?_getD])
theorem OI.at' {W : World} {base n c : Nat} {A : Option Addr} {xs : List Int} (h : OI W base (.slice A n c) xs) {j : Nat} (hj : j < xs.length) : ∃ ad, A = some ad ∧ W.cell? (ad.add j) = some (.int .i64 (xs.getD j 0)) := by
  have hn : n = xs.length := by
    obtain ⟨A', c', e, _⟩ := h.form
    injection e
  subst hn
  exact h.at hj
section
variable {ops : Array Oper} {rest : List Oper} {o : Oper} {a : Act} {Q : Exit → Act → World → Prop}
theorem app_int {W : World} (base : Nat) (hgd : o.guard = none) (s x : Operand) (ho : o.op = .call { callee := .builtin .append, args := #[s, x], argTypes := #[36, 36] })
    (v : Value) (xs : List Int) (y : Int) (g : Nat) (hs : a.eval s = v) (hx : a.eval x = .slice (some ⟨g, 0, none⟩) 1 1) (HO : OI W base v xs) (hb : W.heap[g]? = some (.cells #[.int .i64 y] 3 (0, 0)))
    (hbase : base ≤ W.heap.size) (hl : xs.length ≤ 1000000)
    (h : ∀ v1 w1, OI w1 base v1 (xs ++ [y]) → W.grownBy w1 v.ownBlock → wpList Try.prog ops Q rest (a.put o.dst v1) w1) :
    wpList Try.prog ops Q (o :: rest) a W := by
  obtain ⟨i0, hi0, hz0, hz1, hz2⟩ := info_parts info_int
  refine wpList_append_at W hgd s x 36 ho base 3 i0 (.int .i64 0) 1 8 Try.underlying36 hi0 hz0 hz1 hz2 rfl Nat.zero_lt_one v xs.length (nums .i64 xs) hs HO (some ⟨g, 0, none⟩) 1 1 [.int .i64 y] hx rfl (fun _ => ⟨_, rfl, fun j u' hu' => ?_⟩) (fun u' hu' => by rw [List.mem_singleton.1 hu']; rfl) (by simp only [maxLen]; omega) (by omega) hbase ?_
  · have hj : j = 0 := by have := (List.getElem?_eq_some_iff.1 hu').1; simpa using this
    subst hj
    obtain rfl : u' = .int .i64 y := by simpa using hu'.symm
    rw [Addr.add_lit]
    exact (one_at hb).1
  · intro v1 w1 h1 h2 h3
    refine h v1 w1 ?_ h2
    unfold OI
    rw [nums_append, List.length_append]
    exact h1
end
theorem cutsL_snoc (l : List Rc) (r : Rc) : cutsL (l ++ [r]) = cutsL l ++ [((allB (l ++ [r])).length : Int)] := by
  unfold cutsL
  rw [endsR_snoc, List.map_append, Nat.zero_add]
  rfl
theorem cutsL_len (l : List Rc) : (cutsL l).length = l.length := by unfold cutsL; rw [List.length_map, endsR_len]
theorem cutsL_get (l : List Rc) (j : Nat) (h : j < l.length) : (cutsL l).getD j 0 = ((allB (l.take (j + 1))).length : Int) := by
  have := endsR_get l 0 j h
  unfold cutsL
  rw [List.getD_eq_getElem?_getD, List.getElem?_map]
  cases hq : (endsR 0 l)[j]? with
  | none => rw [hq] at this; simp at this
  | some q => rw [hq] at this; simp at this; simp [this]
end Go.Proofs.Ytcnohnieoecpdaa.Oct
