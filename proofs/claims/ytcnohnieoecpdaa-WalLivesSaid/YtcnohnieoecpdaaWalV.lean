import Derived.Test.YtcnohnieoecpdaaWalU
/- A log beside its tape, the laws; append of records. -/
namespace Go.Proofs.Ytcnohnieoecpdaa.Oct
open Go.RowKit Go.Proofs.YtcnohnieoecpdaaW.PrintWords Go.Proofs.Ytcnohnieoecpdaa.M
set_option linter.unusedVariables false
set_option linter.unusedSimpArgs false
def addP (t : TS) (ls : List Rc) (r : Rc) (force : Bool) : TS × List Rc × Int :=
  if r.good then (if t.room - t.bs.length < r.all.length then (t, ls, 5) else ((if force then (TS.mk t.room (t.bs ++ r.all) t.forced).force else TS.mk t.room (t.bs ++ r.all) t.forced), ls ++ [r], 0)) else (t, ls, (writeR r).2)
/-- a log, its tape; ex: what is neither's -/
def LgAt (base : Nat) (W : World) (q p : Nat) (t : TS) (ls : List Rc) (ex : Nat → Prop) : Prop :=
  ∃ F G : Nat → Prop, TapeAt W p t F ∧ LogR W q p ls G ∧ (∀ k, F k → ¬ G k) ∧ (∀ k, F k → base ≤ k ∧ k < W.heap.size ∧ ¬ ex k) ∧ (∀ k, G k → base ≤ k ∧ k < W.heap.size ∧ ¬ ex k)
theorem LgAt.step {base : Nat} {W W' : World} {q p : Nat} {t : TS} {ls : List Rc} {ex : Nat → Prop} (h : LgAt base W q p t ls ex) (hs : W.heap.size ≤ W'.heap.size) (hb : ∀ k, ¬ ex k → k < W.heap.size → W'.heap[k]? = W.heap[k]?) : LgAt base W' q p t ls ex := by
  obtain ⟨F, G, h1, h2, h3, h4, h5⟩ := h
  exact ⟨F, G, h1.step hs (fun k hk hl => hb k (h4 k hk).2.2 hl), h2.step (fun k hk hl => hb k (h5 k hk).2.2 hl), h3, fun k hk => ⟨(h4 k hk).1, Nat.lt_of_lt_of_le (h4 k hk).2.1 hs, (h4 k hk).2.2⟩, fun k hk => ⟨(h5 k hk).1, Nat.lt_of_lt_of_le (h5 k hk).2.1 hs, (h5 k hk).2.2⟩⟩
theorem LgAt.below {base : Nat} {W W' : World} {q p : Nat} {t : TS} {ls : List Rc} {ex : Nat → Prop} (h : LgAt base W q p t ls ex) (hb : Below W.heap.size W W') : LgAt base W' q p t ls ex := h.step hb.size (fun k _ hk => hb.block k hk)
theorem LgAt.ok {base : Nat} {W : World} {q p : Nat} {t : TS} {ls : List Rc} {ex : Nat → Prop} (h : LgAt base W q p t ls ex) : t.ok := by
  obtain ⟨F, G, ⟨_, _, _, _, _, _, h⟩, _⟩ := h
  exact h
/-- a call of the tape's alone -/
theorem LgAt.tape {base : Nat} {W : World} {q p : Nat} {t t' : TS} {ls : List Rc} {n : Int} {ex : Nat → Prop} {f : Nat} {args : Array Value} (h : LgAt base W q p t ls ex) (hx : ∀ k, ex k → k < W.heap.size) (hbs : base ≤ W.heap.size)
    (hc : ∀ F, TapeAt W p t F → Calls Try.prog f args W (RetT W p F t' n)) : Calls Try.prog f args W (fun e W' => e = .returned (.int .i64 n) ∧ LgAt base W' q p t' ls ex ∧ KX base W ex W') := by
  obtain ⟨F, G, h1, h2, h3, h4, h5⟩ := h
  have hp : F p := by obtain ⟨_, _, _, _, hp, _⟩ := h1; exact hp
  refine (hc F h1).mono ?_
  rintro e W' ⟨rfl, ht, hg⟩
  have hk : Kept W F W' := Kept.of_grown hg (fun k e => by injection e with e; subst e; exact hp)
  refine ⟨rfl, ⟨fun k => New W F k ∧ k < W'.heap.size, G, ht.mono (fun k h hl => ⟨h, hl⟩), h2.step (fun k hg hl => hk.block k hl (fun hf => h3 k hf hg)), ?_, ?_, fun k hg => ⟨(h5 k hg).1, Nat.lt_of_lt_of_le (h5 k hg).2.1 hk.size, (h5 k hg).2.2⟩⟩, KX.of_kept hk hbs (fun k hf => ⟨(h4 k hf).1, (h4 k hf).2.2⟩)⟩
  · rintro k ⟨hf | hn, _⟩ hg
    · exact h3 k hf hg
    · have := (h5 k hg).2.1
      have hn : W.heap.size ≤ k := hn
      omega
  · rintro k ⟨hf | hn, hl⟩
    · exact ⟨(h4 k hf).1, hl, (h4 k hf).2.2⟩
    · have hn : W.heap.size ≤ k := hn
      exact ⟨by omega, hl, fun e => by have := hx k e; omega⟩
/-- one record, in a row of the call's own -/
theorem RW.one {W : World} {b c : Nat} {A : Option Addr} {r : Rc} (h : RW W b (.slice A 1 c) [r]) : ∃ ad u, A = some ad ∧ W.cell? (ad.add 0) = some (.int .i64 r.1) ∧ W.cell? (ad.add 1) = some u ∧ OB W b u r.2 ∧ u.oneCell' = true := by
  obtain ⟨vs, h1, h2⟩ := h
  obtain ⟨e1, u, e2, ho⟩ := h2 0 r rfl
  have hA := OwnAt.of_row h1
  obtain ⟨ad, e, x0⟩ := OwnAt.cell hA e1
  obtain ⟨ad', e', x1⟩ := OwnAt.cell hA e2
  rw [e] at e'
  injection e' with e'
  subst e'
  refine ⟨ad, u, e, x0, x1, ho, ?_⟩
  obtain ⟨_, _, rfl, _⟩ := ho.reads
  rfl
theorem LR.add {W w1 : World} {G : Nat → Prop} {b n : Nat} {v v1 u : Value} {ls : List Rc} {r : Rc} {vs : List Value} (hn : n = ls.length) (h1 : OwnAt W 0 24 2 v n vs) (h2 : ∀ k, v.ownBlock = some k → G k)
    (h3 : ∀ (j : Nat) (r : Rc), ls[j]? = some r → vs[2 * j]? = some (.int .i64 r.1) ∧ ∃ u, vs[2 * j + 1]? = some u ∧ QB W 0 u r.2 ∧ ∀ k, u.ownBlock = some k → G k) (hu : OB W b u r.2) (hbW : b ≤ W.heap.size)
    (ho1 : OwnAt w1 0 24 2 v1 (n + 1) (vs ++ [.int .i64 r.1, u])) (hg : W.grownBy w1 v.ownBlock) (hn1 : v1.ownBlock = v.ownBlock ∨ ∃ b, v1.ownBlock = some b ∧ W.heap.size ≤ b) : LR w1 (fun k => G k ∨ b ≤ k) v1 (ls ++ [r]) := by
  subst hn
  have hmove : ∀ {u' : Value} {l' : List Int}, QB W 0 u' l' → QB w1 0 u' l' := fun {u' l'} ho => ho.move (fun k hk => hg.block k (ho.block hk).2 (own_at_apart ho h1 (by decide) k hk))
  have hl := h1.1
  refine ⟨vs ++ [.int .i64 r.1, u], by rw [List.length_append]; exact ho1, fun k e => ?_, fun j q hj => ?_⟩
  · rcases hn1 with h | ⟨b', h, hb'⟩
    · rw [h] at e; exact .inl (h2 k e)
    · rw [h] at e
      injection e with e
      subst e
      exact .inr (Nat.le_trans hbW hb')
  · rcases Nat.lt_or_ge j ls.length with h | h
    · rw [List.getElem?_append_left h] at hj
      obtain ⟨f1, u', f2, f3, f4⟩ := h3 j q hj
      rw [List.getElem?_append_left (by omega), List.getElem?_append_left (by omega)]
      exact ⟨f1, u', f2, hmove f3, fun k e => .inl (f4 k e)⟩
    · have hjl : j = ls.length := by have := (List.getElem?_eq_some_iff.1 hj).1; simp at this; omega
      subst hjl
      rw [List.getElem?_append_right (Nat.le_refl _), Nat.sub_self] at hj
      obtain rfl : q = r := by simpa using hj.symm
      rw [List.getElem?_append_right (by omega), List.getElem?_append_right (by omega), show 2 * ls.length - vs.length = 0 by omega, show 2 * ls.length + 1 - vs.length = 1 by omega]
      exact ⟨rfl, u, rfl, hmove ((QB.of_OB hu).lower (Nat.zero_le _)), fun k e => .inr (own_base hu k e)⟩
/-- one step of a region that draws: append(l.recs, one record that was copied) -/
theorem step_logrec {ops : Array Oper} {o : Oper} {a : Act} {K : Act → World → Prop} {Q : Exit → Act → World → Prop} {E : Prop} {W : World} (b : Nat) (G : Nat → Prop) (hgd : o.guard = none) (s x : Operand)
    (ho : o.op = .call { callee := .builtin .append, args := #[s, x], argTypes := #[30, 30] })
    (v : Value) (ls : List Rc) (r : Rc) (A2 : Option Addr) (c2 : Nat) (hs : a.eval s = v) (hx : a.eval x = .slice A2 1 c2) (HO : LR W G v ls) (HR : RW W b (.slice A2 1 c2) [r]) (hbW : b ≤ W.heap.size) (hl : ls.length ≤ 1000000000)
    (h : ∀ v1 w1, LR w1 (fun k => G k ∨ b ≤ k) v1 (ls ++ [r]) → W.grownBy w1 v.ownBlock → (v1.ownBlock = v.ownBlock ∨ ∃ b, v1.ownBlock = some b ∧ W.heap.size ≤ b) → K (a.put o.dst v1) w1) :
    if Region.wanted o (yielded ops a.tmps) = true then Oper.wp Try.prog o a W K Q else E := by
  obtain ⟨vs, e1, e2, e3⟩ := HO
  obtain ⟨ad, u, rfl, x0, x1, hu, hone⟩ := HR.one
  obtain ⟨i0, hi0, hz0, hz1, hz2⟩ := info_parts info_rec
  refine step_append_at W hgd s x 30 ho 0 24 i0 (.agg #[.int .i64 0, .slice none 0 0]) 2 32 Try.underlying30 hi0 hz0 hz1 hz2 rfl (by decide) v ls.length vs hs e1 (some ad) 1 c2 [.int .i64 r.1, u] hx rfl (fun _ => ⟨ad, rfl, fun j u' hu' => ?_⟩) (fun u' hu' => ?_) (by simp only [maxLen]; omega) (by omega) (Nat.zero_le _) ?_
  · match j, hu' with
    | 0, hu' => simp at hu'; subst hu'; exact x0
    | 1, hu' => simp at hu'; subst hu'; exact x1
  · rcases List.mem_cons.1 hu' with rfl | hu'
    · rfl
    · obtain rfl := List.mem_singleton.1 hu'
      exact hone
  · intro v1 w1 ho1 hg hn
    exact h v1 w1 (LR.add rfl e1 e2 e3 hu hbW ho1 hg hn) hg hn
/-- what Add leaves behind its store -/
theorem add_close {base : Nat} {W w1 : World} {q p : Nat} {t : TS} {ls ls' : List Rc} {F G ex : Nat → Prop} {b : Nat} {v v1 : Value} (h1 : TapeAt W p t F) (hh : W.heap[q]? = some (.cells #[.pointer (some ⟨p, 0, none⟩), v] 55 (0, 0))) (hv : LR W G v ls) (hq : G q) (h3 : ∀ k, F k → ¬ G k) (h4 : ∀ k, F k → base ≤ k ∧ k < W.heap.size ∧ ¬ ex k) (h5 : ∀ k, G k → base ≤ k ∧ k < W.heap.size ∧ ¬ ex k)
    (hx : ∀ k, ex k → k < W.heap.size) (hbs : base ≤ W.heap.size) (hb : b = W.heap.size) {Wm : World} (hm : Below W.heap.size W Wm) (hl1 : LR w1 (fun k => G k ∨ b ≤ k) v1 ls') (hg : Wm.grownBy w1 v.ownBlock) : LgAt base (w1.setCell ⟨q, 1, none⟩ v1) q p t ls' ex ∧ KX base W ex (w1.setCell ⟨q, 1, none⟩ v1) := by
  subst hb
  have hgs := grown_set w1 q 1 v1
  have hql := (Array.getElem?_eq_some_iff.1 hh).1
  have hvb : ∀ k, v.ownBlock = some k → G k := by obtain ⟨_, _, h, _⟩ := hv; exact h
  have hqv : some q ≠ v.ownBlock := fun e => by
    obtain ⟨vs, ho, _⟩ := hv
    obtain ⟨cur, hc⟩ := own_at_type ho e.symm
    rw [hh] at hc
    injection hc with hc
    injection hc with _ hc
    exact absurd hc (by decide)
  have hh1 : w1.heap[q]? = some (.cells #[.pointer (some ⟨p, 0, none⟩), v] 55 (0, 0)) := (hg.block q (Nat.lt_of_lt_of_le hql hm.size) hqv).trans (blk_keep hh hm)
  have hk : Kept W G (w1.setCell ⟨q, 1, none⟩ v1) := ((Kept.of_below G hm).trans (Kept.of_grown (F := G) hg hvb) (fun _ _ h => h)).trans (Kept.of_grown (F := G) hgs (fun k e => by injection e with e; subst e; exact hq)) (fun _ _ h => h)
  have hv1q : ∀ k, (∃ cur t, w1.heap[k]? = some (Obj.cells cur t (0, 0)) ∧ t ≠ 55) → (w1.setCell ⟨q, 1, none⟩ v1).heap[k]? = w1.heap[k]? := fun k ⟨cur, t, hc, hne⟩ => Below.heap_setCell w1 ⟨q, 1, none⟩ v1 k (fun e => by
    have e : k = q := e
    subst e
    rw [hh1] at hc
    injection hc with hc
    injection hc with _ hc
    exact hne hc.symm)
  refine ⟨⟨F, fun k => (G k ∨ W.heap.size ≤ k) ∧ k < (w1.setCell ⟨q, 1, none⟩ v1).heap.size, h1.step hk.size (fun k hf hl => hk.block k hl (h3 k hf)), ⟨v1, heap_set _ hh1, ?_, .inl hq, ?_⟩, ?_, fun k hf => ⟨(h4 k hf).1, Nat.lt_of_lt_of_le (h4 k hf).2.1 hk.size, (h4 k hf).2.2⟩, ?_⟩, KX.of_kept hk hbs (fun k hf => ⟨(h5 k hf).1, (h5 k hf).2.2⟩)⟩
  · obtain ⟨vs, a1, a2, a3⟩ := hl1
    refine LR.mono (G := fun k => G k ∨ W.heap.size ≤ k) ⟨vs, a1.move (fun k e => hv1q k (by obtain ⟨cur, hc⟩ := own_at_type a1 e; exact ⟨cur, _, hc, by decide⟩)), a2, fun j r hj => ?_⟩ (fun k hk hl => ⟨hk, hl⟩)
    obtain ⟨e1, u, e2, hqb, hu⟩ := a3 j r hj
    exact ⟨e1, u, e2, hqb.move (fun k e => hv1q k (by obtain ⟨cur, hc⟩ := own_at_type hqb e; exact ⟨cur, _, hc, by decide⟩)), hu⟩
  · exact Nat.lt_of_lt_of_le hql hk.size
  · rintro k hf ⟨hg' | hn, _⟩
    · exact h3 k hf hg'
    · have := (h4 k hf).2.1
      omega
  · rintro k ⟨hg' | hn, hl⟩
    · exact ⟨(h5 k hg').1, hl, (h5 k hg').2.2⟩
    · exact ⟨by omega, hl, fun e => by have := hx k e; omega⟩
end Go.Proofs.Ytcnohnieoecpdaa.Oct
