import Derived.Test.YtcnohnieoecpdaaWalT
/- A log beside its tape; made, Records, Room. -/
namespace Go.Proofs.Ytcnohnieoecpdaa.Oct
open Go.RowKit Go.Proofs.YtcnohnieoecpdaaW.PrintWords Go.Proofs.Ytcnohnieoecpdaa.M
set_option linter.unusedVariables false
set_option linter.unusedSimpArgs false
/-- only blocks that F lets may have changed -/
structure Kept (W : World) (F : Nat → Prop) (W' : World) : Prop where
  os : W'.os = W.os
  tape : W'.tape = W.tape
  output : W'.output = W.output
  size : W.heap.size ≤ W'.heap.size
  block : ∀ k, k < W.heap.size → ¬ F k → W'.heap[k]? = W.heap[k]?
theorem Kept.of_below {W W' : World} (F : Nat → Prop) (h : Below W.heap.size W W') : Kept W F W' := by
  have g := grown_of_below h none
  exact ⟨g.os, g.tape, g.output, g.size, fun k hk _ => h.block k hk⟩
theorem Kept.of_grown {W W' : World} {F : Nat → Prop} {row : Option Nat} (h : W.grownBy W' row) (hp : ∀ k, row = some k → F k) : Kept W F W' := ⟨h.os, h.tape, h.output, h.size, fun k hk hf => h.block k hk (fun e => hf (hp k e.symm))⟩
theorem Kept.trans {W W1 W2 : World} {F G : Nat → Prop} (h : Kept W F W1) (h2 : Kept W1 G W2) (hG : ∀ k, k < W.heap.size → G k → F k) : Kept W F W2 :=
  ⟨h2.os.trans h.os, h2.tape.trans h.tape, h2.output.trans h.output, Nat.le_trans h.size h2.size, fun k hk hf => (h2.block k (Nat.lt_of_lt_of_le hk h.size) (fun hg => hf (hG k hk hg))).trans (h.block k hk hf)⟩
theorem below_kept {base : Nat} {W0 W W' : World} {F : Nat → Prop} (h0 : Below base W0 W) (h : Kept W F W') (hs : base ≤ W.heap.size) (hF : ∀ k, F k → base ≤ k) : Below base W0 W' :=
  h0.trans ⟨h.os, h.tape, h.output, h.size, fun k hk => h.block k (by omega) (fun hf => by have := hF k hf; omega)⟩
/-- what a call leaves as it was -/
structure KX (base : Nat) (W : World) (ex : Nat → Prop) (W' : World) : Prop where
  below : Below base W W'
  block : ∀ k, ex k → k < W.heap.size → W'.heap[k]? = W.heap[k]?
theorem KX.trans {base : Nat} {W W1 W2 : World} {ex : Nat → Prop} (h : KX base W ex W1) (h2 : KX base W1 ex W2) : KX base W ex W2 := ⟨h.below.trans h2.below, fun k hk hl => (h2.block k hk (Nat.lt_of_lt_of_le hl h.below.size)).trans (h.block k hk hl)⟩
theorem KX.of_below {base : Nat} {W W' : World} {ex : Nat → Prop} (hb : Below W.heap.size W W') (h : base ≤ W.heap.size) : KX base W ex W' := ⟨hb.mono h, fun k _ hk => hb.block k hk⟩
theorem KX.of_kept {base : Nat} {W W' : World} {F ex : Nat → Prop} (hk : Kept W F W') (hb : base ≤ W.heap.size) (hF : ∀ k, F k → base ≤ k ∧ ¬ ex k) : KX base W ex W' :=
  ⟨below_kept (Below.refl base W) hk hb (fun k h => (hF k h).1), fun k he hl => hk.block k hl (fun h => (hF k h).2 he)⟩
/-- rows of records, in blocks that G lets -/
def LR (W : World) (G : Nat → Prop) (v : Value) (ls : List Rc) : Prop := ∃ vs : List Value, OwnAt W 0 24 2 v ls.length vs ∧ (∀ k, v.ownBlock = some k → G k) ∧
  ∀ (j : Nat) (r : Rc), ls[j]? = some r → vs[2 * j]? = some (.int .i64 r.1) ∧ ∃ u, vs[2 * j + 1]? = some u ∧ QB W 0 u r.2 ∧ ∀ k, u.ownBlock = some k → G k
theorem LR.of_RW {W : World} {base : Nat} {v : Value} {ls : List Rc} (h : RW W base v ls) : LR W (fun k => base ≤ k ∧ k < W.heap.size) v ls := by
  obtain ⟨vs, h1, h2⟩ := h
  refine ⟨vs, (OwnAt.of_row h1).lower (Nat.zero_le _), fun k e => ⟨own_base h1 k e, own_lt h1 k e⟩, fun j r hj => ?_⟩
  obtain ⟨e1, u, e2, ho⟩ := h2 j r hj
  exact ⟨e1, u, e2, (QB.of_OB ho).lower (Nat.zero_le _), fun k e => ⟨own_base ho k e, own_lt ho k e⟩⟩
theorem LR.mono {W : World} {G G' : Nat → Prop} {v : Value} {ls : List Rc} (h : LR W G v ls) (hg : ∀ k, G k → k < W.heap.size → G' k) : LR W G' v ls := by
  obtain ⟨vs, h1, h2, h3⟩ := h
  refine ⟨vs, h1, fun k e => hg k (h2 k e) (h1.block e).2, fun j r hj => ?_⟩
  obtain ⟨e1, u, e2, hq, hb⟩ := h3 j r hj
  exact ⟨e1, u, e2, hq, fun k e => hg k (hb k e) (hq.block e).2⟩
theorem LR.step {W W' : World} {G : Nat → Prop} {v : Value} {ls : List Rc} (h : LR W G v ls) (hb : ∀ k, G k → k < W.heap.size → W'.heap[k]? = W.heap[k]?) : LR W' G v ls := by
  obtain ⟨vs, h1, h2, h3⟩ := h
  refine ⟨vs, h1.move (fun k e => hb k (h2 k e) (h1.block e).2), h2, fun j r hj => ?_⟩
  obtain ⟨e1, u, e2, hq, hu⟩ := h3 j r hj
  exact ⟨e1, u, e2, hq.move (fun k e => hb k (hu k e) (hq.block e).2), hu⟩
theorem LR.form {W : World} {G : Nat → Prop} {v : Value} {ls : List Rc} (h : LR W G v ls) : ∃ A c, v = .slice A ls.length c ∧ ls.length ≤ c := by
  obtain ⟨vs, h1, _⟩ := h
  rcases h1.2 with ⟨e, h0⟩ | ⟨g, off, cap, cur, e, _, _, hc, _⟩
  · exact ⟨none, 0, by rw [e, h0], by omega⟩
  · exact ⟨_, _, e, hc⟩
theorem LR.C {W : World} {G : Nat → Prop} {n c : Nat} {A : Option Addr} {ls : List Rc} (h : LR W G (.slice A n c) ls) (hl : ls.length ≤ 9223372036854775807) : recK.C W A ls.length ls := by
  obtain ⟨vs, hA, _, h2⟩ := h
  refine ⟨rfl, hl, fun hn => ?_⟩
  obtain ⟨_, u0, hu0, _⟩ := h2 0 ls[0] (List.getElem?_eq_getElem hn)
  have hnc : n = ls.length := by
    rcases hA.2 with ⟨e, h0⟩ | ⟨g, off, cap, cur, e, _⟩
    · omega
    · injection e with _ e _
  subst hnc
  obtain ⟨ad, e, _⟩ := OwnAt.cell hA hu0
  refine ⟨ad, e, fun j p hj => ?_⟩
  obtain ⟨e1, u, e2, ho, _⟩ := h2 j p hj
  obtain ⟨B, cc, rfl, hcap, _, hr⟩ := ho.form
  refine ⟨[.int .i64 p.1, .slice B p.2.length cc], rfl, ⟨[.int .i64 p.1], [.slice B p.2.length cc], rfl, rfl, B, cc, rfl, hcap, hr⟩, fun i v hv => ?_⟩
  have hsz : recK.sz = 2 := rfl
  rw [hsz]
  match i, hv with
  | 0, hv =>
    obtain ⟨ad2, e', hc⟩ := OwnAt.cell hA e1
    rw [e] at e'
    injection e' with e'
    subst e'
    rw [Nat.add_zero, Nat.mul_comm]
    simp at hv
    rw [← hv]
    exact hc
  | 1, hv =>
    obtain ⟨ad2, e', hc⟩ := OwnAt.cell hA e2
    rw [e] at e'
    injection e' with e'
    subst e'
    rw [Nat.mul_comm]
    simp at hv
    rw [← hv]
    exact hc
/-- a log's own: its struct, its records -/
def LogR (W : World) (q p : Nat) (ls : List Rc) (G : Nat → Prop) : Prop := ∃ v, W.heap[q]? = some (.cells #[.pointer (some ⟨p, 0, none⟩), v] 55 (0, 0)) ∧ LR W G v ls ∧ G q
theorem LogR.step {W W' : World} {q p : Nat} {ls : List Rc} {G : Nat → Prop} (h : LogR W q p ls G) (hb : ∀ k, G k → k < W.heap.size → W'.heap[k]? = W.heap[k]?) : LogR W' q p ls G := by
  obtain ⟨v, hh, hl, hq⟩ := h
  exact ⟨v, (hb q hq (Array.getElem?_eq_some_iff.1 hh).1).trans hh, hl.step hb, hq⟩
theorem LogR.below {W W' : World} {q p : Nat} {ls : List Rc} {G : Nat → Prop} (h : LogR W q p ls G) (hb : Below W.heap.size W W') : LogR W' q p ls G := h.step (fun k _ hk => hb.block k hk)
theorem LogR.mono {W : World} {q p : Nat} {ls : List Rc} {G G' : Nat → Prop} (h : LogR W q p ls G) (hg : ∀ k, G k → k < W.heap.size → G' k) : LogR W q p ls G' := by
  obtain ⟨v, hh, hl, hq⟩ := h
  exact ⟨v, hh, hl.mono hg, hg q hq (Array.getElem?_eq_some_iff.1 hh).1⟩
theorem LogR.is {W : World} {q p : Nat} {ls : List Rc} {G : Nat → Prop} (h : LogR W q p ls G) : q < W.heap.size ∧ G q := by
  obtain ⟨v, hh, _, hq⟩ := h
  exact ⟨(Array.getElem?_eq_some_iff.1 hh).1, hq⟩
theorem lmade_calls (w : World) (q p : Nat) (ls : List Rc) (G : Nat → Prop) (h : LogR w q p ls G) : Calls Try.prog 49 #[.pointer (some ⟨q, 0, none⟩)] w fun e w' => e = .returned (.bool true) ∧ w' = w := by
  obtain ⟨v, hh, hl, _⟩ := h
  obtain ⟨c0, _, _, _⟩ := two_cells' hh
  clear hh hl
  go_enter Try.func49, Try.ntmps49
  go_wp2
  go_ret
  exact ⟨rfl, rfl⟩
theorem records_calls (w : World) (q p : Nat) (ls : List Rc) (G : Nat → Prop) (h : LogR w q p ls G) (hb : ∀ r ∈ ls, r.2.length ≤ 140737488355328) (hll : ls.length ≤ 10000000000) : Calls Try.prog 26 #[.pointer (some ⟨q, 0, none⟩)] w fun e w' => ∃ v, e = .returned v ∧ RW w' w.heap.size v ls ∧ Below w.heap.size w w' := by
  have HT := Aside0.mk h
  obtain ⟨v, hh, hl, _⟩ := h
  obtain ⟨A, c, rfl, _⟩ := hl.form
  obtain ⟨_, c1, _, _⟩ := two_cells' hh
  have HC := Aside0.mk (copies_calls w ls A c (hl.C (by omega)) hb hll)
  obtain ⟨n, hn⟩ : ∃ n, n = ls.length := ⟨_, rfl⟩
  rw [← hn] at HC c1
  clear hh hl hb hn hll
  go_enter Try.func26, Try.ntmps26
  go_wp2_with fail
  refine (lmade_calls _ q p ls G HT.out).mono ?_
  rintro e w1 ⟨rfl, hw1⟩
  have hw1 := hw1.symm
  subst hw1
  go_wp2_with fail
  refine HC.out.mono ?_
  rintro e w2 ⟨v, rfl, hr, hb⟩
  obtain ⟨A2, c2, rfl⟩ := hr.form
  have HR := Aside0.mk hr
  have HB := Aside0.mk hb
  clear hr hb
  go_wp2_with fail
  go_ret
  exact ⟨_, rfl, HR.out, HB.out⟩
end Go.Proofs.Ytcnohnieoecpdaa.Oct
