import Derived.Test.YtdagpeencafheaaOctP
namespace Go.Proofs.Ytdagpeencafheaa.Oct
open Go.RowKit Go.Proofs.YtdagpeencafheaaW.PrintWords Go.Proofs.Ytdagpeencafheaa.M
set_option linter.unusedVariables false
set_option linter.unusedSimpArgs false
/-! ### the plain law: how a text falls into parts -/
def splitR (at_ : Nat) (rest : List Int) (k : Nat) : Except (Int × Int) (List (List Int)) :=
  match rest with
  | [] => .ok []
  | [_] => .error (at_, 11)
  | x :: y :: r =>
    if r.length < (256 * x + y).toNat then .error (at_, 11)
    else if 1000 ≤ k then .error (0, 2)
    else match splitR (at_ + 2 + (256 * x + y).toNat) (r.drop (256 * x + y).toNat) (k + 1) with
      | .ok l => .ok (r.take (256 * x + y).toNat :: l)
      | .error e => .error e
termination_by rest.length
decreasing_by simp; omega
def splitM (b : List Int) : Except (Int × Int) (List (List Int)) := splitR 0 b 0
/-- what is to come, with what has come ahead of it -/
def withOut (out : List (List Int)) : Except (Int × Int) (List (List Int)) → Except (Int × Int) (List (List Int))
  | .ok l => .ok (out ++ l)
  | .error e => .error e
/-- the parts and the fault, as the two functions tell them -/
def splitP (b : List Int) : List (List Int) := match splitM b with | .ok l => l | .error _ => []
def splitE (b : List Int) : Int × Int := match splitM b with | .ok _ => (0, 0) | .error e => e
theorem splitR_nil (k at_ : Nat) : splitR at_ [] k = .ok [] := by unfold splitR; rfl
theorem splitR_one (k at_ : Nat) (x : Int) : splitR at_ [x] k = .error (at_, 11) := by unfold splitR; rfl
theorem splitR_short (k at_ : Nat) (x y : Int) (r : List Int) (h : r.length < (256 * x + y).toNat) : splitR at_ (x :: y :: r) k = .error (at_, 11) := by unfold splitR; rw [if_pos h]
theorem splitR_long (k at_ : Nat) (x y : Int) (r : List Int) (h : ¬ r.length < (256 * x + y).toNat) (hk : 1000 ≤ k) : splitR at_ (x :: y :: r) k = .error (0, 2) := by unfold splitR; rw [if_neg h, if_pos hk]
theorem splitR_step (k at_ : Nat) (x y : Int) (r : List Int) (h : ¬ r.length < (256 * x + y).toNat) (hk : ¬ 1000 ≤ k) : splitR at_ (x :: y :: r) k = withOut [r.take (256 * x + y).toNat] (splitR (at_ + 2 + (256 * x + y).toNat) (r.drop (256 * x + y).toNat) (k + 1)) := by
  rw [splitR, if_neg h, if_neg hk]
  cases splitR (at_ + 2 + (256 * x + y).toNat) (r.drop (256 * x + y).toNat) (k + 1) <;> rfl
theorem withOut_nil (e : Except (Int × Int) (List (List Int))) : withOut [] e = e := by cases e <;> rfl
theorem withOut_app (a b : List (List Int)) (e : Except (Int × Int) (List (List Int))) : withOut a (withOut b e) = withOut (a ++ b) e := by cases e <;> simp [withOut]
theorem drop_two {b : List Int} {i : Nat} (h : i + 1 < b.length) : b.drop i = b.getD i 0 :: b.getD (i + 1) 0 :: b.drop (i + 2) := by
  rw [List.drop_eq_getElem_cons (by omega), List.drop_eq_getElem_cons h]
  simp [List.getD_eq_getElem?_getD, List.getElem?_eq_getElem h, List.getElem?_eq_getElem (show i < b.length by omega)]
theorem drop_one {b : List Int} {i : Nat} (h : i + 1 = b.length) : b.drop i = [b.getD i 0] := by
  rw [List.drop_eq_getElem_cons (by omega), List.drop_eq_nil_of_le (by omega)]
  simp [List.getD_eq_getElem?_getD, List.getElem?_eq_getElem (show i < b.length by omega)]
/-! ### rows of texts of the call's own -/
theorem info_row : (Try.prog.info? 22).map (fun i => (i.zero, i.size, i.bytes)) = some (some (.slice none 0 0), 1, 24) := by kernel_rfl
def Rows_ (W : World) (base : Nat) (v : Value) (ls : List (List Int)) : Prop := ∃ vs : List Value, vs.length = ls.length ∧ W.ownsRow base 22 1 v vs.length vs ∧ ∀ (j : Nat) (u : Value) (l : List Int), vs[j]? = some u → ls[j]? = some l → OB W base u l
theorem Rows_.nil (W : World) (base : Nat) : Rows_ W base (.slice none 0 0) [] := ⟨[], rfl, own_nil W base _ 1, fun j u l h => by simp at h⟩
theorem own_type {W : World} {base : Nat} {e : TypeId} {n : Nat} {v : Value} {xs : List Value} (h : W.ownsRow base e 1 v n xs) {g : Nat} (hg : v.ownBlock = some g) : ∃ cur, W.heap[g]? = some (.cells cur e (0, 0)) := by
  rcases h.2 with ⟨rfl, _⟩ | ⟨g', cap, cur, rfl, _, hh, _⟩
  · cases hg
  · have : g' = g := by simpa [Value.ownBlock] using hg
    subst this
    exact ⟨cur, hh⟩
theorem own_apart {W : World} {base base' : Nat} {n : Nat} {v u : Value} {vs : List Value} {xs : List Int} (h : W.ownsRow base 22 1 v n vs) (h2 : OB W base' u xs) {g : Nat} (hg : v.ownBlock = some g) : u.ownBlock ≠ some g := by
  intro e
  obtain ⟨c1, h1⟩ := own_type h hg
  obtain ⟨c2, h2⟩ := own_type h2 e
  rw [h1] at h2
  injection h2 with h2
  injection h2 with _ h2
  exact absurd h2 (by decide)
theorem Rows_.below {W W' : World} {base : Nat} {v : Value} {ls : List (List Int)} (h : Rows_ W base v ls) (hb : Below W.heap.size W W') : Rows_ W' base v ls := by
  obtain ⟨vs, h1, h2, h3⟩ := h
  exact ⟨vs, h1, pw_own_below h2 hb, fun j u l hu hl => (h3 j u l hu hl).below hb⟩
theorem Rows_.lower {W : World} {base base' : Nat} {v : Value} {ls : List (List Int)} (h : Rows_ W base v ls) (hb : base' ≤ base) : Rows_ W base' v ls := by
  obtain ⟨vs, h1, h2, h3⟩ := h
  exact ⟨vs, h1, own_weaken h2 hb, fun j u l hu hl => (h3 j u l hu hl).lower hb⟩
/-- a row of one's own, read -/
theorem Rows_.reads {W : World} {base : Nat} {v : Value} {ls : List (List Int)} (h : Rows_ W base v ls) : ∃ A c, v = .slice A ls.length c ∧ partK.C W A ls.length ls := by
  obtain ⟨vs, h1, h2, h3⟩ := h
  rcases h2.2 with ⟨rfl, h0⟩ | ⟨g, cap, cur, rfl, _, hh, hn, hm, hs, ht⟩
  · have hl : ls = [] := List.eq_nil_of_length_eq_zero (by omega)
    subst hl
    exact ⟨none, 0, rfl, Kd.C_nil _ _⟩
  · rw [h1]
    refine ⟨_, _, rfl, rfl, by rw [h1] at hn; simp only [maxLen] at hm; omega, fun _ => ⟨_, rfl, fun j l hl => ?_⟩⟩
    have hj : j < ls.length := (List.getElem?_eq_some_iff.1 hl).1
    have hu : vs[j]? = some vs[j] := List.getElem?_eq_getElem (by omega)
    obtain ⟨A, c, e, hr⟩ := (h3 j _ l hu hl).reads
    have hcap := (show OB W base (.slice A l.length c) l by rw [← e]; exact h3 j _ l hu hl)
    refine ⟨[.slice A l.length c], rfl, ⟨A, c, rfl, ?_, hr⟩, fun i u hi => ?_⟩
    · rcases hcap.2 with ⟨e2, h0⟩ | ⟨g2, cap2, cur2, e2, _, _, h5, _⟩
      · injection e2 with _ e2 _; omega
      · injection e2 with _ e2 e3; omega
    · have hi0 : i = 0 := by have := (List.getElem?_eq_some_iff.1 hi).1; simpa using this
      subst hi0
      have hi' : u = .slice A l.length c := by simpa using hi.symm
      subst hi'
      have hadd : (⟨g, 0, none⟩ : Addr).add (j * partK.sz + 0) = ⟨g, j, none⟩ := by rw [show j * partK.sz + 0 = j from Nat.mul_one j]; exact add_plain g j
      rw [hadd, cell_of_row W g j _ _ _ hh, ← e]
      have : cur.toList[j]? = some vs[j] := by
        rw [← hu, ← ht, List.getElem?_take, if_pos (by omega)]
      simpa using this
section
variable {ops : Array Oper} {rest : List Oper} {o : Oper} {a : Act} {Q : Exit → Act → World → Prop}
/-- append(v, u): a text of one's own behind the others -/
theorem app_row {W0 W : World} (base : Nat) (hgd : o.guard = none) (s x : Operand) (ho : o.op = .call { callee := .builtin .append, args := #[s, x], argTypes := #[38, 38] })
    (v : Value) (ls : List (List Int)) (u : Value) (l : List Int) (hs : a.eval s = v) (hx : a.eval x = .slice (some ⟨W.heap.size, 0, none⟩) 1 1) (HO : Rows_ W base v ls) (HU : OB W base u l)
    (HB : Below base W0 W) (hbase : base ≤ W.heap.size) (hl : ls.length ≤ 1000000)
    (h : ∀ v1 w1, Rows_ w1 base v1 (ls ++ [l]) → Below base W0 w1 → (∀ k, k < W.heap.size → some k ≠ v.ownBlock → w1.heap[k]? = W.heap[k]?) → W.heap.size ≤ w1.heap.size → wpList Try.prog ops Q rest (a.put o.dst v1) w1) :
    wpList Try.prog ops Q (o :: rest) a (W.alloc (.cells #[u] 22)) := by
  obtain ⟨vs, h1, h2, h3⟩ := HO
  have hu1 : u.oneCell' = true := by
    obtain ⟨A, c, rfl, _⟩ := HU.reads
    rfl
  refine print_append (w0 := W0) base hgd s x 38 22 (.slice none 0 0) 24 ho Try.underlying38 info_row rfl (by omega) v vs u hs hx hu1 h2 HB hbase (by omega) ?_
  intro v1 w1 hown hb hg hat
  have hblk : ∀ k, k < W.heap.size → some k ≠ v.ownBlock → w1.heap[k]? = W.heap[k]? := fun k hk hne => hg.block k hk hne
  have hmove : ∀ {u' : Value} {l' : List Int}, OB W base u' l' → OB w1 base u' l' := fun {u' l'} ho => own_move ho (fun k hk => hblk k (own_lt ho k hk) (fun e => own_apart h2 ho e.symm hk))
  refine h v1 w1 ⟨vs ++ [u], by simp [h1], by simpa using hown, fun j u' l' hu' hl' => ?_⟩ hb hblk hg.size
  rcases Nat.lt_or_ge j vs.length with hj | hj
  · rw [List.getElem?_append_left hj] at hu'
    rw [List.getElem?_append_left (by omega)] at hl'
    exact hmove (h3 j u' l' hu' hl')
  · rw [List.getElem?_append_right hj] at hu'
    rw [List.getElem?_append_right (by omega)] at hl'
    have hj0 : j - vs.length = 0 := by have := (List.getElem?_eq_some_iff.1 hu').1; simp at this; omega
    rw [hj0] at hu'
    rw [show j - ls.length = 0 by omega] at hl'
    have e1 : u' = u := by simpa using hu'.symm
    have e2 : l' = l := by simpa using hl'.symm
    subst e1 e2
    exact hmove HU
end
end Go.Proofs.Ytdagpeencafheaa.Oct
