
import Derived.Test.YtobljkhidgbeoaaZ42
/- A log beside its tape; made, Records, Room. -/
namespace Go.Proofs.Ytobljkhidgbeoaa.Oct
open Go.RowKit Go.Proofs.YtobljkhidgbeoaaW.PrintWords Go.Proofs.Ytobljkhidgbeoaa.M
set_option linter.unusedVariables false
set_option linter.unusedSimpArgs false
/-- only blocks that F lets may have changed -/
structure Kept (W : World) (F : Nat → Prop) (W' : World) : Prop where
  os : W'.os = W.os
  tape : W'.tape = W.tape
  output : W'.output = W.output
  size : W.heap.size ≤ W'.heap.size
  block : ∀ k, k < W.heap.size → ¬ F k → W'.heap[k]? = W.heap[k]?
theorem Kept.of_below {W W' : World} (F : Nat → Prop) (h : Below W.heap.size W W') : Kept W F W' := by
  have g := grown_of_below h none
  exact ⟨g.os, g.tape, g.output, g.size, fun k hk _ => h.block k hk⟩
theorem Kept.of_grown {W W' : World} {F : Nat → Prop} {row : Option Nat} (h : W.grownBy W' row) (hp : ∀ k, row = some k → F k) : Kept W F W' := ⟨h.os, h.tape, h.output, h.size, fun k hk hf => h.block k hk (fun e => hf (hp k e.symm))⟩
theorem Kept.trans {W W1 W2 : World} {F G : Nat → Prop} (h : Kept W F W1) (h2 : Kept W1 G W2) (hG : ∀ k, k < W.heap.size → G k → F k) : Kept W F W2 :=
  ⟨h2.os.trans h.os, h2.tape.trans h.tape, h2.output.trans h.output, Nat.le_trans h.size h2.size, fun k hk hf => (h2.block k (Nat.lt_of_lt_of_le hk h.size) (fun hg => hf (hG k hk hg))).trans (h.block k hk hf)⟩
theorem below_kept {base : Nat} {W0 W W' : World} {F : Nat → Prop} (h0 : Below base W0 W) (h : Kept W F W') (hs : base ≤ W.heap.size) (hF : ∀ k, F k → base ≤ k) : Below base W0 W' :=
  h0.trans ⟨h.os, h.tape, h.output, h.size, fun k hk => h.block k (by omega) (fun hf => by have := hF k hf; omega)⟩
/-- what a call leaves as it was -/
structure KX (base : Nat) (W : World) (ex : Nat → Prop) (W' : World) : Prop where
  below : Below base W W'
  block : ∀ k, ex k → k < W.heap.size → W'.heap[k]? = W.heap[k]?
theorem KX.trans {base : Nat} {W W1 W2 : World} {ex : Nat → Prop} (h : KX base W ex W1) (h2 : KX base W1 ex W2) : KX base W ex W2 := ⟨h.below.trans h2.below, fun k hk hl => (h2.block k hk (Nat.lt_of_lt_of_le hl h.below.size)).trans (h.block k hk hl)⟩
theorem KX.of_below {base : Nat} {W W' : World} {ex : Nat → Prop} (hb : Below W.heap.size W W') (h : base ≤ W.heap.size) : KX base W ex W' := ⟨hb.mono h, fun k _ hk => hb.block k hk⟩
theorem KX.of_kept {base : Nat} {W W' : World} {F ex : Nat → Prop} (hk : Kept W F W') (hb : base ≤ W.heap.size) (hF : ∀ k, F k → base ≤ k ∧ ¬ ex k) : KX base W ex W' :=
  ⟨below_kept (Below.refl base W) hk hb (fun k h => (hF k h).1), fun k he hl => hk.block k hl (fun h => (hF k h).2 he)⟩
/-- rows of records, in blocks that G lets -/
def LR (W : World) (G : Nat → Prop) (v : Value) (ls : List Rc) : Prop := ∃ vs : List Value, OwnAt W 0 50 2 v ls.length vs ∧ (∀ k, v.ownBlock = some k → G k) ∧
  ∀ (j : Nat) (r : Rc), ls[j]? = some r → vs[2 * j]? = some (.int .i64 r.1) ∧ ∃ u, vs[2 * j + 1]? = some u ∧ QB W 0 u r.2 ∧ ∀ k, u.ownBlock = some k → G k
theorem LR.of_RW {W : World} {base : Nat} {v : Value} {ls : List Rc} (h : RW W base v ls) : LR W (fun k => base ≤ k ∧ k < W.heap.size) v ls := by
  obtain ⟨vs, h1, h2⟩ := h
  refine ⟨vs, (OwnAt.of_row h1).lower (Nat.zero_le _), fun k e => ⟨own_base h1 k e, own_lt h1 k e⟩, fun j r hj => ?_⟩
  obtain ⟨e1, u, e2, ho⟩ := h2 j r hj
  exact ⟨e1, u, e2, (QB.of_OB ho).lower (Nat.zero_le _), fun k e => ⟨own_base ho k e, own_lt ho k e⟩⟩
theorem LR.mono {W : World} {G G' : Nat → Prop} {v : Value} {ls : List Rc} (h : LR W G v ls) (hg : ∀ k, G k → k < W.heap.size → G' k) : LR W G' v ls := by
  obtain ⟨vs, h1, h2, h3⟩ := h
  refine ⟨vs, h1, fun k e => hg k (h2 k e) (h1.block e).2, fun j r hj => ?_⟩
  obtain ⟨e1, u, e2, hq, hb⟩ := h3 j r hj
  exact ⟨e1, u, e2, hq, fun k e => hg k (hb k e) (hq.block e).2⟩
theorem LR.step {W W' : World} {G : Nat → Prop} {v : Value} {ls : List Rc} (h : LR W G v ls) (hb : ∀ k, G k → k < W.heap.size → W'.heap[k]? = W.heap[k]?) : LR W' G v ls := by
  obtain ⟨vs, h1, h2, h3⟩ := h
  refine ⟨vs, h1.move (fun k e => hb k (h2 k e) (h1.block e).2), h2, fun j r hj => ?_⟩
  obtain ⟨e1, u, e2, hq, hu⟩ := h3 j r hj
  exact ⟨e1, u, e2, hq.move (fun k e => hb k (hu k e) (hq.block e).2), hu⟩
theorem LR.form {W : World} {G : Nat → Prop} {v : Value} {ls : List Rc} (h : LR W G v ls) : ∃ A c, v = .slice A ls.length c ∧ ls.length ≤ c := by
  obtain ⟨vs, h1, _⟩ := h
  rcases h1.2 with ⟨e, h0⟩ | ⟨g, off, cap, cur, e, _, _, hc, _⟩
  · exact ⟨none, 0, by rw [e, h0], by omega⟩
  · exact ⟨_, _, e, hc⟩
theorem LR.C {W : World} {G : Nat → Prop} {n c : Nat} {A : Option Addr} {ls : List Rc} (h : LR W G (.slice A n c) ls) (hl : ls.length ≤ 9223372036854775807) : recK.C W A ls.length ls := by
  obtain ⟨vs, hA, _, h2⟩ := h
  refine ⟨rfl, hl, fun hn => ?_⟩
  obtain ⟨_, u0, hu0, _⟩ := h2 0 ls[0] (List.getElem?_eq_getElem hn)
  have hnc : n = ls.length := by
    rcases hA.2 with ⟨e, h0⟩ | ⟨g, off, cap, cur, e, _⟩
    · omega
    · injection e with _ e _
  subst hnc
  obtain ⟨ad, e, _⟩ := OwnAt.cell hA hu0
  refine ⟨ad, e, fun j p hj => ?_⟩
  obtain ⟨e1, u, e2, ho, _⟩ := h2 j p hj
  obtain ⟨B, cc, rfl, hcap, _, hr⟩ := ho.form
  refine ⟨[.int .i64 p.1, .slice B p.2.length cc], rfl, ⟨[.int .i64 p.1], [.slice B p.2.length cc], rfl, rfl, B, cc, rfl, hcap, hr⟩, fun i v hv => ?_⟩
  have hsz : recK.sz = 2 := rfl
  rw [hsz]
  match i, hv with
  | 0, hv =>
    obtain ⟨ad2, e', hc⟩ := OwnAt.cell hA e1
    rw [e] at e'
    injection e' with e'
    subst e'
    rw [Nat.add_zero, Nat.mul_comm]
    simp at hv
    rw [← hv]
    exact hc
  | 1, hv =>
    obtain ⟨ad2, e', hc⟩ := OwnAt.cell hA e2
    rw [e] at e'
    injection e' with e'
    subst e'
    rw [Nat.mul_comm]
    simp at hv
    rw [← hv]
    exact hc
/-- a log's own: its struct, its records -/
def LogR (W : World) (q p : Nat) (ls : List Rc) (G : Nat → Prop) : Prop := ∃ v, W.heap[q]? = some (.cells #[.pointer (some ⟨p, 0, none⟩), v] 70 (0, 0)) ∧ LR W G v ls ∧ G q
theorem LogR.step {W W' : World} {q p : Nat} {ls : List Rc} {G : Nat → Prop} (h : LogR W q p ls G) (hb : ∀ k, G k → k < W.heap.size → W'.heap[k]? = W.heap[k]?) : LogR W' q p ls G := by
  obtain ⟨v, hh, hl, hq⟩ := h
  exact ⟨v, (hb q hq (Array.getElem?_eq_some_iff.1 hh).1).trans hh, hl.step hb, hq⟩
theorem LogR.below {W W' : World} {q p : Nat} {ls : List Rc} {G : Nat → Prop} (h : LogR W q p ls G) (hb : Below W.heap.size W W') : LogR W' q p ls G := h.step (fun k _ hk => hb.block k hk)
theorem LogR.mono {W : World} {q p : Nat} {ls : List Rc} {G G' : Nat → Prop} (h : LogR W q p ls G) (hg : ∀ k, G k → k < W.heap.size → G' k) : LogR W q p ls G' := by
  obtain ⟨v, hh, hl, hq⟩ := h
  exact ⟨v, hh, hl.mono hg, hg q hq (Array.getElem?_eq_some_iff.1 hh).1⟩
theorem LogR.is {W : World} {q p : Nat} {ls : List Rc} {G : Nat → Prop} (h : LogR W q p ls G) : q < W.heap.size ∧ G q := by
  obtain ⟨v, hh, _, hq⟩ := h
  exact ⟨(Array.getElem?_eq_some_iff.1 hh).1, hq⟩
theorem lmade_calls (w : World) (q p : Nat) (ls : List Rc) (G : Nat → Prop) (h : LogR w q p ls G) : Calls Try.prog 35 #[.pointer (some ⟨q, 0, none⟩)] w fun e w' => e = .returned (.bool true) ∧ w' = w := by
  obtain ⟨v, hh, hl, _⟩ := h
  obtain ⟨c0, _, _, _⟩ := two_cells' hh
  clear hh hl
  go_enter Try.func35, Try.ntmps35
  go_wp2
  go_ret
  exact ⟨rfl, rfl⟩
end Go.Proofs.Ytobljkhidgbeoaa.Oct
/- A log beside its tape, the laws; append of records. -/
namespace Go.Proofs.Ytobljkhidgbeoaa.Oct
open Go.RowKit Go.Proofs.YtobljkhidgbeoaaW.PrintWords Go.Proofs.Ytobljkhidgbeoaa.M
set_option linter.unusedVariables false
set_option linter.unusedSimpArgs false
def addP (t : TS) (ls : List Rc) (r : Rc) (force : Bool) : TS × List Rc × Int :=
  if r.good then (if t.room - t.bs.length < r.all.length then (t, ls, 5) else ((if force then (TS.mk t.room (t.bs ++ r.all) t.forced).force else TS.mk t.room (t.bs ++ r.all) t.forced), ls ++ [r], 0)) else (t, ls, (writeR r).2)
/-- a log, its tape; ex: what is neither's -/
def LgAt (base : Nat) (W : World) (q p : Nat) (t : TS) (ls : List Rc) (ex : Nat → Prop) : Prop :=
  ∃ F G : Nat → Prop, TapeAt W p t F ∧ LogR W q p ls G ∧ (∀ k, F k → ¬ G k) ∧ (∀ k, F k → base ≤ k ∧ k < W.heap.size ∧ ¬ ex k) ∧ (∀ k, G k → base ≤ k ∧ k < W.heap.size ∧ ¬ ex k)
theorem LgAt.step {base : Nat} {W W' : World} {q p : Nat} {t : TS} {ls : List Rc} {ex : Nat → Prop} (h : LgAt base W q p t ls ex) (hs : W.heap.size ≤ W'.heap.size) (hb : ∀ k, ¬ ex k → k < W.heap.size → W'.heap[k]? = W.heap[k]?) : LgAt base W' q p t ls ex := by
  obtain ⟨F, G, h1, h2, h3, h4, h5⟩ := h
  exact ⟨F, G, h1.step hs (fun k hk hl => hb k (h4 k hk).2.2 hl), h2.step (fun k hk hl => hb k (h5 k hk).2.2 hl), h3, fun k hk => ⟨(h4 k hk).1, Nat.lt_of_lt_of_le (h4 k hk).2.1 hs, (h4 k hk).2.2⟩, fun k hk => ⟨(h5 k hk).1, Nat.lt_of_lt_of_le (h5 k hk).2.1 hs, (h5 k hk).2.2⟩⟩
theorem LgAt.below {base : Nat} {W W' : World} {q p : Nat} {t : TS} {ls : List Rc} {ex : Nat → Prop} (h : LgAt base W q p t ls ex) (hb : Below W.heap.size W W') : LgAt base W' q p t ls ex := h.step hb.size (fun k _ hk => hb.block k hk)
theorem LgAt.ok {base : Nat} {W : World} {q p : Nat} {t : TS} {ls : List Rc} {ex : Nat → Prop} (h : LgAt base W q p t ls ex) : t.ok := by
  obtain ⟨F, G, ⟨_, _, _, _, _, _, h⟩, _⟩ := h
  exact h
/-- a call of the tape's alone -/
theorem LgAt.tape {base : Nat} {W : World} {q p : Nat} {t t' : TS} {ls : List Rc} {n : Int} {ex : Nat → Prop} {f : Nat} {args : Array Value} (h : LgAt base W q p t ls ex) (hx : ∀ k, ex k → k < W.heap.size) (hbs : base ≤ W.heap.size)
    (hc : ∀ F, TapeAt W p t F → Calls Try.prog f args W (RetT W p F t' n)) : Calls Try.prog f args W (fun e W' => e = .returned (.int .i64 n) ∧ LgAt base W' q p t' ls ex ∧ KX base W ex W') := by
  obtain ⟨F, G, h1, h2, h3, h4, h5⟩ := h
  have hp : F p := by obtain ⟨_, _, _, _, hp, _⟩ := h1; exact hp
  refine (hc F h1).mono ?_
  rintro e W' ⟨rfl, ht, hg⟩
  have hk : Kept W F W' := Kept.of_grown hg (fun k e => by injection e with e; subst e; exact hp)
  refine ⟨rfl, ⟨fun k => New W F k ∧ k < W'.heap.size, G, ht.mono (fun k h hl => ⟨h, hl⟩), h2.step (fun k hg hl => hk.block k hl (fun hf => h3 k hf hg)), ?_, ?_, fun k hg => ⟨(h5 k hg).1, Nat.lt_of_lt_of_le (h5 k hg).2.1 hk.size, (h5 k hg).2.2⟩⟩, KX.of_kept hk hbs (fun k hf => ⟨(h4 k hf).1, (h4 k hf).2.2⟩)⟩
  · rintro k ⟨hf | hn, _⟩ hg
    · exact h3 k hf hg
    · have := (h5 k hg).2.1
      have hn : W.heap.size ≤ k := hn
      omega
  · rintro k ⟨hf | hn, hl⟩
    · exact ⟨(h4 k hf).1, hl, (h4 k hf).2.2⟩
    · have hn : W.heap.size ≤ k := hn
      exact ⟨by omega, hl, fun e => by have := hx k e; omega⟩
/-- one record, in a row of the call's own -/
theorem RW.one {W : World} {b c : Nat} {A : Option Addr} {r : Rc} (h : RW W b (.slice A 1 c) [r]) : ∃ ad u, A = some ad ∧ W.cell? (ad.add 0) = some (.int .i64 r.1) ∧ W.cell? (ad.add 1) = some u ∧ OB W b u r.2 ∧ u.oneCell' = true := by
  obtain ⟨vs, h1, h2⟩ := h
  obtain ⟨e1, u, e2, ho⟩ := h2 0 r rfl
  have hA := OwnAt.of_row h1
  obtain ⟨ad, e, x0⟩ := OwnAt.cell hA e1
  obtain ⟨ad', e', x1⟩ := OwnAt.cell hA e2
  rw [e] at e'
  injection e' with e'
  subst e'
  refine ⟨ad, u, e, x0, x1, ho, ?_⟩
  obtain ⟨_, _, rfl, _⟩ := ho.reads
  rfl
theorem LR.add {W w1 : World} {G : Nat → Prop} {b n : Nat} {v v1 u : Value} {ls : List Rc} {r : Rc} {vs : List Value} (hn : n = ls.length) (h1 : OwnAt W 0 50 2 v n vs) (h2 : ∀ k, v.ownBlock = some k → G k)
    (h3 : ∀ (j : Nat) (r : Rc), ls[j]? = some r → vs[2 * j]? = some (.int .i64 r.1) ∧ ∃ u, vs[2 * j + 1]? = some u ∧ QB W 0 u r.2 ∧ ∀ k, u.ownBlock = some k → G k) (hu : OB W b u r.2) (hbW : b ≤ W.heap.size)
    (ho1 : OwnAt w1 0 50 2 v1 (n + 1) (vs ++ [.int .i64 r.1, u])) (hg : W.grownBy w1 v.ownBlock) (hn1 : v1.ownBlock = v.ownBlock ∨ ∃ b, v1.ownBlock = some b ∧ W.heap.size ≤ b) : LR w1 (fun k => G k ∨ b ≤ k) v1 (ls ++ [r]) := by
  subst hn
  have hmove : ∀ {u' : Value} {l' : List Int}, QB W 0 u' l' → QB w1 0 u' l' := fun {u' l'} ho => ho.move (fun k hk => hg.block k (ho.block hk).2 (own_at_apart ho h1 (by decide) k hk))
  have hl := h1.1
  refine ⟨vs ++ [.int .i64 r.1, u], by rw [List.length_append]; exact ho1, fun k e => ?_, fun j q hj => ?_⟩
  · rcases hn1 with h | ⟨b', h, hb'⟩
    · rw [h] at e; exact .inl (h2 k e)
    · rw [h] at e
      injection e with e
      subst e
      exact .inr (Nat.le_trans hbW hb')
  · rcases Nat.lt_or_ge j ls.length with h | h
    · rw [List.getElem?_append_left h] at hj
      obtain ⟨f1, u', f2, f3, f4⟩ := h3 j q hj
      rw [List.getElem?_append_left (by omega), List.getElem?_append_left (by omega)]
      exact ⟨f1, u', f2, hmove f3, fun k e => .inl (f4 k e)⟩
    · have hjl : j = ls.length := by have := (List.getElem?_eq_some_iff.1 hj).1; simp at this; omega
      subst hjl
      rw [List.getElem?_append_right (Nat.le_refl _), Nat.sub_self] at hj
      obtain rfl : q = r := by simpa using hj.symm
      rw [List.getElem?_append_right (by omega), List.getElem?_append_right (by omega), show 2 * ls.length - vs.length = 0 by omega, show 2 * ls.length + 1 - vs.length = 1 by omega]
      exact ⟨rfl, u, rfl, hmove ((QB.of_OB hu).lower (Nat.zero_le _)), fun k e => .inr (own_base hu k e)⟩
/-- one step of a region that draws: append(l.recs, one record that was copied) -/
theorem step_logrec {ops : Array Oper} {o : Oper} {a : Act} {K : Act → World → Prop} {Q : Exit → Act → World → Prop} {E : Prop} {W : World} (b : Nat) (G : Nat → Prop) (hgd : o.guard = none) (s x : Operand)
    (ho : o.op = .call { callee := .builtin .append, args := #[s, x], argTypes := #[28, 28] })
    (v : Value) (ls : List Rc) (r : Rc) (A2 : Option Addr) (c2 : Nat) (hs : a.eval s = v) (hx : a.eval x = .slice A2 1 c2) (HO : LR W G v ls) (HR : RW W b (.slice A2 1 c2) [r]) (hbW : b ≤ W.heap.size) (hl : ls.length ≤ 1000000000)
    (h : ∀ v1 w1, LR w1 (fun k => G k ∨ b ≤ k) v1 (ls ++ [r]) → W.grownBy w1 v.ownBlock → (v1.ownBlock = v.ownBlock ∨ ∃ b, v1.ownBlock = some b ∧ W.heap.size ≤ b) → K (a.put o.dst v1) w1) :
    if Region.wanted o (yielded ops a.tmps) = true then Oper.wp Try.prog o a W K Q else E := by
  obtain ⟨vs, e1, e2, e3⟩ := HO
  obtain ⟨ad, u, rfl, x0, x1, hu, hone⟩ := HR.one
  obtain ⟨i0, hi0, hz0, hz1, hz2⟩ := info_parts info_rec
  refine step_append_at W hgd s x 28 ho 0 50 i0 (.agg #[.int .i64 0, .slice none 0 0]) 2 32 Try.underlying28 hi0 hz0 hz1 hz2 rfl (by decide) v ls.length vs hs e1 (some ad) 1 c2 [.int .i64 r.1, u] hx rfl (fun _ => ⟨ad, rfl, fun j u' hu' => ?_⟩) (fun u' hu' => ?_) (by simp only [maxLen]; omega) (by omega) (Nat.zero_le _) ?_
  · match j, hu' with
    | 0, hu' => simp at hu'; subst hu'; exact x0
    | 1, hu' => simp at hu'; subst hu'; exact x1
  · rcases List.mem_cons.1 hu' with rfl | hu'
    · rfl
    · obtain rfl := List.mem_singleton.1 hu'
      exact hone
  · intro v1 w1 ho1 hg hn
    exact h v1 w1 (LR.add rfl e1 e2 e3 hu hbW ho1 hg hn) hg hn
/-- what Add leaves behind its store -/
theorem add_close {base : Nat} {W w1 : World} {q p : Nat} {t : TS} {ls ls' : List Rc} {F G ex : Nat → Prop} {b : Nat} {v v1 : Value} (h1 : TapeAt W p t F) (hh : W.heap[q]? = some (.cells #[.pointer (some ⟨p, 0, none⟩), v] 70 (0, 0))) (hv : LR W G v ls) (hq : G q) (h3 : ∀ k, F k → ¬ G k) (h4 : ∀ k, F k → base ≤ k ∧ k < W.heap.size ∧ ¬ ex k) (h5 : ∀ k, G k → base ≤ k ∧ k < W.heap.size ∧ ¬ ex k)
    (hx : ∀ k, ex k → k < W.heap.size) (hbs : base ≤ W.heap.size) (hb : b = W.heap.size) {Wm : World} (hm : Below W.heap.size W Wm) (hl1 : LR w1 (fun k => G k ∨ b ≤ k) v1 ls') (hg : Wm.grownBy w1 v.ownBlock) : LgAt base (w1.setCell ⟨q, 1, none⟩ v1) q p t ls' ex ∧ KX base W ex (w1.setCell ⟨q, 1, none⟩ v1) := by
  subst hb
  have hgs := grown_set w1 q 1 v1
  have hql := (Array.getElem?_eq_some_iff.1 hh).1
  have hvb : ∀ k, v.ownBlock = some k → G k := by obtain ⟨_, _, h, _⟩ := hv; exact h
  have hqv : some q ≠ v.ownBlock := fun e => by
    obtain ⟨vs, ho, _⟩ := hv
    obtain ⟨cur, hc⟩ := own_at_type ho e.symm
    rw [hh] at hc
    injection hc with hc
    injection hc with _ hc
    exact absurd hc (by decide)
  have hh1 : w1.heap[q]? = some (.cells #[.pointer (some ⟨p, 0, none⟩), v] 70 (0, 0)) := (hg.block q (Nat.lt_of_lt_of_le hql hm.size) hqv).trans (blk_keep hh hm)
  have hk : Kept W G (w1.setCell ⟨q, 1, none⟩ v1) := ((Kept.of_below G hm).trans (Kept.of_grown (F := G) hg hvb) (fun _ _ h => h)).trans (Kept.of_grown (F := G) hgs (fun k e => by injection e with e; subst e; exact hq)) (fun _ _ h => h)
  have hv1q : ∀ k, (∃ cur t, w1.heap[k]? = some (Obj.cells cur t (0, 0)) ∧ t ≠ 70) → (w1.setCell ⟨q, 1, none⟩ v1).heap[k]? = w1.heap[k]? := fun k ⟨cur, t, hc, hne⟩ => Below.heap_setCell w1 ⟨q, 1, none⟩ v1 k (fun e => by
    have e : k = q := e
    subst e
    rw [hh1] at hc
    injection hc with hc
    injection hc with _ hc
    exact hne hc.symm)
  refine ⟨⟨F, fun k => (G k ∨ W.heap.size ≤ k) ∧ k < (w1.setCell ⟨q, 1, none⟩ v1).heap.size, h1.step hk.size (fun k hf hl => hk.block k hl (h3 k hf)), ⟨v1, heap_set _ hh1, ?_, .inl hq, ?_⟩, ?_, fun k hf => ⟨(h4 k hf).1, Nat.lt_of_lt_of_le (h4 k hf).2.1 hk.size, (h4 k hf).2.2⟩, ?_⟩, KX.of_kept hk hbs (fun k hf => ⟨(h5 k hf).1, (h5 k hf).2.2⟩)⟩
  · obtain ⟨vs, a1, a2, a3⟩ := hl1
    refine LR.mono (G := fun k => G k ∨ W.heap.size ≤ k) ⟨vs, a1.move (fun k e => hv1q k (by obtain ⟨cur, hc⟩ := own_at_type a1 e; exact ⟨cur, _, hc, by decide⟩)), a2, fun j r hj => ?_⟩ (fun k hk hl => ⟨hk, hl⟩)
    obtain ⟨e1, u, e2, hqb, hu⟩ := a3 j r hj
    exact ⟨e1, u, e2, hqb.move (fun k e => hv1q k (by obtain ⟨cur, hc⟩ := own_at_type hqb e; exact ⟨cur, _, hc, by decide⟩)), hu⟩
  · exact Nat.lt_of_lt_of_le hql hk.size
  · rintro k hf ⟨hg' | hn, _⟩
    · exact h3 k hf hg'
    · have := (h4 k hf).2.1
      omega
  · rintro k ⟨hg' | hn, hl⟩
    · exact ⟨(h5 k hg').1, hl, (h5 k hg').2.2⟩
    · exact ⟨by omega, hl, fun e => by have := hx k e; omega⟩
end Go.Proofs.Ytobljkhidgbeoaa.Oct
