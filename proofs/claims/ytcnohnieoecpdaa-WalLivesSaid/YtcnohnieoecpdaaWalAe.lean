import Derived.Test.YtcnohnieoecpdaaWalAd
/- The document's log beside its tape; its Add. -/
namespace Go.Proofs.Ytcnohnieoecpdaa.Oct
open Go.RowKit Go.Proofs.YtcnohnieoecpdaaW.PrintWords Go.Proofs.Ytcnohnieoecpdaa.M
set_option linter.unusedVariables false
set_option linter.unusedSimpArgs false
/-- bytes that are there whatever is done to what D does not hold -/
def Stab (base : Nat) (W : World) (D : Nat → Prop) (B : Option Addr) (bs : List Int) : Prop := ∀ W', KX base W D W' → Kd.C (Kd.int .u8) W' B bs.length bs
theorem Stab.step {base : Nat} {W W1 : World} {D : Nat → Prop} {B : Option Addr} {bs : List Int} (h : Stab base W D B bs) (hk : KX base W D W1) : Stab base W1 D B bs := fun W' h' => h W' (hk.trans h')
/-- rows of records whose bodies lie below the mark, or in blocks that D holds -/
def MR (base : Nat) (W : World) (L D : Nat → Prop) (v : Value) (ls : List Rc) : Prop := ∃ vs : List Value, OwnAt W 0 24 2 v ls.length vs ∧ (∀ k, v.ownBlock = some k → L k) ∧
  ∀ (j : Nat) (r : Rc), ls[j]? = some r → vs[2 * j]? = some (.int .i64 r.1) ∧ ∃ B c, vs[2 * j + 1]? = some (.slice B r.2.length c) ∧ r.2.length ≤ c ∧ Stab base W D B r.2
theorem MR.step {base : Nat} {W W' : World} {L D : Nat → Prop} {v : Value} {ls : List Rc} (h : MR base W L D v ls) (hb : ∀ k, L k → k < W.heap.size → W'.heap[k]? = W.heap[k]?) (hk : KX base W D W') : MR base W' L D v ls := by
  obtain ⟨vs, h1, h2, h3⟩ := h
  refine ⟨vs, h1.move (fun k e => hb k (h2 k e) (h1.block e).2), h2, fun j r hj => ?_⟩
  obtain ⟨e1, B, c, e2, e3, e4⟩ := h3 j r hj
  exact ⟨e1, B, c, e2, e3, e4.step hk⟩
theorem MR.form {base : Nat} {W : World} {L D : Nat → Prop} {v : Value} {ls : List Rc} (h : MR base W L D v ls) : ∃ A c, v = .slice A ls.length c ∧ ls.length ≤ c := by
  obtain ⟨vs, h1, _⟩ := h
  rcases h1.2 with ⟨e, h0⟩ | ⟨g, off, cap, cur, e, _, _, hc, _⟩
  · exact ⟨none, 0, by rw [e, h0], by omega⟩
  · exact ⟨_, _, e, hc⟩
theorem MR.C {base : Nat} {W : World} {L D : Nat → Prop} {n c : Nat} {A : Option Addr} {ls : List Rc} (h : MR base W L D (.slice A n c) ls) (hl : ls.length ≤ 9223372036854775807) : recK.C W A ls.length ls := by
  obtain ⟨vs, hA, _, h2⟩ := h
  refine ⟨rfl, hl, fun hn => ?_⟩
  obtain ⟨_, B0, c0, hu0, _⟩ := h2 0 ls[0] (List.getElem?_eq_getElem hn)
  have hnc : n = ls.length := by
    rcases hA.2 with ⟨e, h0⟩ | ⟨g, off, cap, cur, e, _⟩
    · omega
    · injection e with _ e _
  subst hnc
  obtain ⟨ad, e, _⟩ := OwnAt.cell hA hu0
  refine ⟨ad, e, fun j p hj => ?_⟩
  obtain ⟨e1, B, cc, e2, hcap, hs⟩ := h2 j p hj
  refine ⟨[.int .i64 p.1, .slice B p.2.length cc], rfl, ⟨[.int .i64 p.1], [.slice B p.2.length cc], rfl, rfl, B, cc, rfl, hcap, hs W ⟨Below.refl _ _, fun _ _ _ => rfl⟩⟩, fun i v hv => ?_⟩
  have hsz : recK.sz = 2 := rfl
  rw [hsz]
  match i, hv with
  | 0, hv =>
    obtain ⟨ad2, e', hc⟩ := OwnAt.cell hA e1
    rw [e] at e'
    injection e' with e'
    subst e'
    rw [Nat.add_zero, Nat.mul_comm]
    simp at hv
    rw [← hv]
    exact hc
  | 1, hv =>
    obtain ⟨ad2, e', hc⟩ := OwnAt.cell hA e2
    rw [e] at e'
    injection e' with e'
    subst e'
    rw [Nat.mul_comm]
    simp at hv
    rw [← hv]
    exact hc
/-- the document's log, its tape, in blocks that H lets -/
def MAt (base : Nat) (W : World) (y x : Nat) (u : TS) (us : List Rc) (H : Nat → Prop) : Prop :=
  ∃ (T L D : Nat → Prop) (v : Value), RefAt W x u T ∧ W.heap[y]? = some (.cells #[.pointer (some ⟨x, 0, none⟩), v] 70 (0, 0)) ∧ MR base W L D v us ∧ L y ∧ (∀ k, T k → ¬ L k ∧ ¬ D k) ∧ (∀ k, L k → ¬ D k) ∧ (∀ k, T k ∨ L k ∨ D k → base ≤ k ∧ k < W.heap.size ∧ H k)
theorem MAt.step {base : Nat} {W W' : World} {y x : Nat} {u : TS} {us : List Rc} {H : Nat → Prop} (h : MAt base W y x u us H) (hk : KX base W H W') : MAt base W' y x u us H := by
  obtain ⟨T, L, D, v, h1, h2, h3, h4, h5, h6, h7⟩ := h
  have hs := hk.below.size
  exact ⟨T, L, D, v, h1.step (fun k a b => hk.block k (h7 k (.inl a)).2.2 b), (hk.block y (h7 y (.inr (.inl h4))).2.2 (Array.getElem?_eq_some_iff.1 h2).1).trans h2,
    h3.step (fun k a b => hk.block k (h7 k (.inr (.inl a))).2.2 b) ⟨hk.below, fun k a b => hk.block k (h7 k (.inr (.inr a))).2.2 b⟩, h4, h5, h6, fun k hk' => ⟨(h7 k hk').1, Nat.lt_of_lt_of_le (h7 k hk').2.1 hs, (h7 k hk').2.2⟩⟩
theorem MAt.below {base : Nat} {W W' : World} {y x : Nat} {u : TS} {us : List Rc} {H : Nat → Prop} (h : MAt base W y x u us H) (hb : Below W.heap.size W W') (hbs : base ≤ W.heap.size) : MAt base W' y x u us H := h.step (KX.of_below hb hbs)
/-- a call of the tape's alone -/
theorem MAt.tape {base : Nat} {W : World} {y x : Nat} {u u' : TS} {us : List Rc} {n : Int} {H : Nat → Prop} {f : Nat} {args : Array Value} (h : MAt base W y x u us H) (hbs : base ≤ W.heap.size)
    (hc : ∀ T, RefAt W x u T → Calls Try.prog f args W (RetR W x T u' n)) : Calls Try.prog f args W (fun e W' => e = .returned (.int .i64 n) ∧ MAt base W' y x u' us (fun k => New W H k ∧ k < W'.heap.size) ∧ Kept W H W') := by
  obtain ⟨T, L, D, v, h1, h2, h3, h4, h5, h6, h7⟩ := h
  refine (hc T h1).mono ?_
  rintro e W' ⟨rfl, ht, hk⟩
  have hs := hk.size
  have hKD : KX base W D W' := KX.of_kept hk hbs (fun k hT => ⟨(h7 k (.inl hT)).1, (h5 k hT).2⟩)
  refine ⟨rfl, ⟨fun k => New W T k ∧ k < W'.heap.size, L, D, v, ht.mono (fun k a b => ⟨a, b⟩), (hk.block y (Array.getElem?_eq_some_iff.1 h2).1 (fun a => (h5 y a).1 h4)).trans h2, h3.step (fun k a b => hk.block k b (fun c => (h5 k c).1 a)) hKD, h4, ?_, h6, ?_⟩, ?_⟩
  · rintro k ⟨a | a, _⟩
    · exact h5 k a
    · have a : W.heap.size ≤ k := a
      exact ⟨fun b => by have := (h7 k (.inr (.inl b))).2.1; omega, fun b => by have := (h7 k (.inr (.inr b))).2.1; omega⟩
  · rintro k (⟨a | a, b⟩ | a | a)
    · exact ⟨(h7 k (.inl a)).1, b, .inl (h7 k (.inl a)).2.2, b⟩
    · have a' : W.heap.size ≤ k := a
      exact ⟨by omega, b, .inr a, b⟩
    · have hh := h7 k (.inr (.inl a))
      exact ⟨hh.1, Nat.lt_of_lt_of_le hh.2.1 hs, .inl hh.2.2, Nat.lt_of_lt_of_le hh.2.1 hs⟩
    · have hh := h7 k (.inr (.inr a))
      exact ⟨hh.1, Nat.lt_of_lt_of_le hh.2.1 hs, .inl hh.2.2, Nat.lt_of_lt_of_le hh.2.1 hs⟩
  · exact ⟨hk.os, hk.tape, hk.output, hk.size, fun k a b => hk.block k a (fun c => b (h7 k (.inl c)).2.2)⟩
/-- what a call of the document's log returns -/
def RetM (base : Nat) (w : World) (y x : Nat) (H : Nat → Prop) (u : TS) (us : List Rc) (n : Int) (e : Ending) (w' : World) : Prop := e = .returned (.int .i64 n) ∧ MAt base w' y x u us (fun k => New w H k ∧ k < w'.heap.size) ∧ Kept w H w'
theorem RetM.behind {base : Nat} {w w2 w3 : World} {y x : Nat} {H : Nat → Prop} {u : TS} {us : List Rc} {n : Int} {e : Ending} (hk : Kept w H w2) (hr : RetM base w2 y x (fun k => New w H k ∧ k < w2.heap.size) u us n e w3) : RetM base w y x H u us n e w3 := by
  obtain ⟨rfl, h, hk2⟩ := hr
  refine ⟨rfl, ?_, hk.trans hk2 (fun k hl h => h.1.elim id (fun h => by have h' : w.heap.size ≤ k := h; omega))⟩
  obtain ⟨T, L, D, v, h1, h2, h3, h4, h5, h6, h7⟩ := h
  exact ⟨T, L, D, v, h1, h2, h3, h4, h5, h6, fun k hk' => ⟨(h7 k hk').1, (h7 k hk').2.1, (h7 k hk').2.2.1.elim (fun a => a.1) (fun a => .inr (Nat.le_trans hk.size a)), (h7 k hk').2.1⟩⟩
/-- what a store of new rows leaves -/
theorem mclose {base : Nat} {W Wm w1 : World} {y x : Nat} {u : TS} {us us' : List Rc} {H T L D : Nat → Prop} {v v1 : Value} (h1 : RefAt W x u T) (h2 : W.heap[y]? = some (.cells #[.pointer (some ⟨x, 0, none⟩), v] 70 (0, 0))) (h3 : MR base W L D v us) (h4 : L y) (h5 : ∀ k, T k → ¬ L k ∧ ¬ D k) (h6 : ∀ k, L k → ¬ D k) (h7 : ∀ k, T k ∨ L k ∨ D k → base ≤ k ∧ k < W.heap.size ∧ H k)
    (hbs : base ≤ W.heap.size) (hm : Below W.heap.size W Wm) (hg : Wm.grownBy w1 v.ownBlock) (hn1 : ∀ k, v1.ownBlock = some k → v.ownBlock = some k ∨ W.heap.size ≤ k)
    (hl1 : KX base W D w1 → ∃ vs : List Value, OwnAt w1 0 24 2 v1 us'.length vs ∧ ∀ (j : Nat) (r : Rc), us'[j]? = some r → vs[2 * j]? = some (.int .i64 r.1) ∧ ∃ B c, vs[2 * j + 1]? = some (.slice B r.2.length c) ∧ r.2.length ≤ c ∧ Stab base w1 D B r.2) :
    MAt base (w1.setCell ⟨y, 1, none⟩ v1) y x u us' (fun k => New W H k ∧ k < (w1.setCell ⟨y, 1, none⟩ v1).heap.size) ∧ Kept W H (w1.setCell ⟨y, 1, none⟩ v1) := by
  have hgs := grown_set w1 y 1 v1
  have hyl := (Array.getElem?_eq_some_iff.1 h2).1
  have hvb : ∀ k, v.ownBlock = some k → L k := by obtain ⟨_, _, h, _⟩ := h3; exact h
  have hk1 : Kept W L w1 := (Kept.of_below L hm).trans (Kept.of_grown (F := L) hg hvb) (fun _ _ h => h)
  have hk : Kept W L (w1.setCell ⟨y, 1, none⟩ v1) := hk1.trans (Kept.of_grown (F := L) hgs (fun k e => by injection e with e; subst e; exact h4)) (fun _ _ h => h)
  have hLb : ∀ k, L k → base ≤ k ∧ ¬ D k := fun k a => ⟨(h7 k (.inr (.inl a))).1, h6 k a⟩
  obtain ⟨vs, a1, a2⟩ := hl1 (KX.of_kept hk1 hbs hLb)
  have hyv : some y ≠ v.ownBlock := fun e => by
    obtain ⟨vs, ho, _⟩ := h3
    obtain ⟨cur, hc⟩ := own_at_type ho e.symm
    rw [h2] at hc
    injection hc with hc
    injection hc with _ hc
    exact absurd hc (by decide)
  have hh1 : w1.heap[y]? = some (.cells #[.pointer (some ⟨x, 0, none⟩), v] 70 (0, 0)) := (hg.block y (Nat.lt_of_lt_of_le hyl hm.size) hyv).trans (blk_keep h2 hm)
  have hyv1 : some y ≠ v1.ownBlock := fun e => by
    obtain ⟨cur, hc⟩ := own_at_type a1 e.symm
    rw [hh1] at hc
    injection hc with hc
    injection hc with _ hc
    exact absurd hc (by decide)
  have hKS : KX base w1 D (w1.setCell ⟨y, 1, none⟩ v1) := ⟨(Below.refl base w1).grown hgs (Nat.le_trans hbs hk1.size) (fun k e => by injection e with e; rw [← e]; exact (hLb y h4).1), fun k hd hl => hgs.block k hl (fun e => by injection e with e; rw [e] at hd; exact (hLb y h4).2 hd)⟩
  refine ⟨⟨T, fun k => (L k ∨ W.heap.size ≤ k) ∧ k < (w1.setCell ⟨y, 1, none⟩ v1).heap.size, D, v1, h1.step (fun k a b => hk.block k b (h5 k a).1), heap_set _ hh1, ?_, ⟨.inl h4, Nat.lt_of_lt_of_le hyl hk.size⟩, ?_, ?_, ?_⟩, ?_⟩
  · have ho := a1.move (W' := w1.setCell ⟨y, 1, none⟩ v1) (fun k e => hgs.block k (a1.block e).2 (fun e' => hyv1 (by rw [e, e'])))
    refine ⟨vs, ho, fun k e => ⟨?_, (ho.block e).2⟩, fun j r hj => ?_⟩
    · rcases hn1 k e with h | h
      · exact .inl (hvb k h)
      · exact .inr h
    · obtain ⟨e1, B, c, e2, e3, e4⟩ := a2 j r hj
      exact ⟨e1, B, c, e2, e3, e4.step hKS⟩
  · rintro k a
    refine ⟨?_, (h5 k a).2⟩
    rintro ⟨b | b, _⟩
    · exact (h5 k a).1 b
    · have := (h7 k (.inl a)).2.1; omega
  · rintro k ⟨a | a, _⟩
    · exact h6 k a
    · exact fun b => by have := (h7 k (.inr (.inr b))).2.1; omega
  · rintro k (a | ⟨a | a, b⟩ | a)
    · have hh := h7 k (.inl a)
      exact ⟨hh.1, Nat.lt_of_lt_of_le hh.2.1 hk.size, .inl hh.2.2, Nat.lt_of_lt_of_le hh.2.1 hk.size⟩
    · exact ⟨(hLb k a).1, b, .inl (h7 k (.inr (.inl a))).2.2, b⟩
    · exact ⟨by omega, b, .inr a, b⟩
    · have hh := h7 k (.inr (.inr a))
      exact ⟨hh.1, Nat.lt_of_lt_of_le hh.2.1 hk.size, .inl hh.2.2, Nat.lt_of_lt_of_le hh.2.1 hk.size⟩
  · exact ⟨hk.os, hk.tape, hk.output, hk.size, fun k a b => hk.block k a (fun c => b (h7 k (.inr (.inl c))).2.2)⟩
theorem rows_snoc {base : Nat} {W w1 : World} {D : Nat → Prop} {ls : List Rc} {r : Rc} {vs : List Value} {A : Option Addr} {c m : Nat} (hm : m = r.2.length) (hcap : m ≤ c) (hs : Stab base W D A r.2) (hvl : vs.length = ls.length * 2) (hk : KX base W D w1)
    (h3 : ∀ (j : Nat) (r : Rc), ls[j]? = some r → vs[2 * j]? = some (.int .i64 r.1) ∧ ∃ B c, vs[2 * j + 1]? = some (.slice B r.2.length c) ∧ r.2.length ≤ c ∧ Stab base W D B r.2) :
    ∀ (j : Nat) (q : Rc), (ls ++ [r])[j]? = some q → (vs ++ [.int .i64 r.1, .slice A m c])[2 * j]? = some (.int .i64 q.1) ∧ ∃ B c', (vs ++ [.int .i64 r.1, .slice A m c])[2 * j + 1]? = some (.slice B q.2.length c') ∧ q.2.length ≤ c' ∧ Stab base w1 D B q.2 := by
  subst hm
  intro j q hj
  rcases Nat.lt_or_ge j ls.length with h | h
  · rw [List.getElem?_append_left h] at hj
    obtain ⟨f1, B, c', f2, f3, f4⟩ := h3 j q hj
    rw [List.getElem?_append_left (by omega), List.getElem?_append_left (by omega)]
    exact ⟨f1, B, c', f2, f3, f4.step hk⟩
  · have hjl : j = ls.length := by have := (List.getElem?_eq_some_iff.1 hj).1; simp at this; omega
    subst hjl
    rw [List.getElem?_append_right (Nat.le_refl _), Nat.sub_self] at hj
    obtain rfl : q = r := by simpa using hj.symm
    rw [List.getElem?_append_right (by omega), List.getElem?_append_right (by omega), show 2 * ls.length - vs.length = 0 by omega, show 2 * ls.length + 1 - vs.length = 1 by omega]
    exact ⟨rfl, A, c, rfl, hcap, hs.step hk⟩
end Go.Proofs.Ytcnohnieoecpdaa.Oct
