import Derived.Test.YtilogpjbdemceaaRecsR
import Derived.Test.YtilogpjbdemceaaRecsG
import Derived.Deep.RegionHeldLaw
/- A stream and the document's, that share nothing, beside blocks of the caller's own. -/
namespace Go.Proofs.Ytilogpjbdemceaa.Oct
open Go.RowKit Go.Proofs.YtilogpjbdemceaaW.PrintWords Go.Proofs.Ytilogpjbdemceaa.M
set_option linter.unusedVariables false
set_option linter.unusedSimpArgs false
def Pr (base : Nat) (W : World) (p x : Nat) (s t : SS) (L : Nat) (ex : Nat → Prop) : Prop :=
  ∃ F G : Nat → Prop, (∀ k, F k → ¬ G k) ∧ (∀ k, F k → base ≤ k ∧ k < W.heap.size ∧ ¬ ex k) ∧ (∀ k, G k → base ≤ k ∧ k < W.heap.size ∧ ¬ ex k) ∧ (∀ k, ex k → k < W.heap.size) ∧ StreamAt W p s F ∧ RefAt W x t G L
/-- the world behind a call, where the blocks of ex stand as they stood -/
structure Kx (base : Nat) (w W : World) (ex : Nat → Prop) (W' : World) : Prop where
  below : Below base w W → Below base w W'
  size : W.heap.size ≤ W'.heap.size
  block : ∀ k, k < W.heap.size → ex k → W'.heap[k]? = W.heap[k]?
theorem Pr.step {base p x L : Nat} {W W' : World} {s t : SS} {ex : Nat → Prop} (h : Pr base W p x s t L ex) (hs : W.heap.size ≤ W'.heap.size) (hb : ∀ k, k < W.heap.size → ¬ ex k → W'.heap[k]? = W.heap[k]?) : Pr base W' p x s t L ex := by
  obtain ⟨F, G, h1, h2, h3, h4, h5, h6⟩ := h
  exact ⟨F, G, h1, fun k h => ⟨(h2 k h).1, Nat.lt_of_lt_of_le (h2 k h).2.1 hs, (h2 k h).2.2⟩, fun k h => ⟨(h3 k h).1, Nat.lt_of_lt_of_le (h3 k h).2.1 hs, (h3 k h).2.2⟩, fun k h => Nat.lt_of_lt_of_le (h4 k h) hs,
    h5.step (fun k h hl => hb k hl (h2 k h).2.2), h6.step (fun k h hl => hb k hl (h3 k h).2.2)⟩
theorem Pr.below {base p x L : Nat} {W W' : World} {s t : SS} {ex : Nat → Prop} (h : Pr base W p x s t L ex) (hb : Below W.heap.size W W') : Pr base W' p x s t L ex := h.step hb.size (fun k hk _ => hb.block k hk)
theorem Pr.ex {base p x L : Nat} {W W' : World} {s t : SS} {ex ex' : Nat → Prop} (h : Pr base W p x s t L ex) (hb : Below W.heap.size W W') (he : ∀ k, ex' k → (W.heap.size ≤ k ∨ ex k) ∧ k < W'.heap.size) : Pr base W' p x s t L ex' := by
  obtain ⟨F, G, h1, h2, h3, h4, h5, h6⟩ := h
  exact ⟨F, G, h1, fun k h => ⟨(h2 k h).1, Nat.lt_of_lt_of_le (h2 k h).2.1 hb.size, fun e => by
      have := (h2 k h).2.1
      rcases (he k e).1 with h' | h'
      · omega
      · exact (h2 k h).2.2 h'⟩, fun k h => ⟨(h3 k h).1, Nat.lt_of_lt_of_le (h3 k h).2.1 hb.size, fun e => by
      have := (h3 k h).2.1
      rcases (he k e).1 with h' | h'
      · omega
      · exact (h3 k h).2.2 h'⟩, fun k h => (he k h).2, h5.below hb, h6.below hb⟩
theorem Pr.none {base p x L : Nat} {W : World} {s t : SS} {ex : Nat → Prop} (h : Pr base W p x s t L ex) : Pr base W p x s t L (fun _ => False) := by
  obtain ⟨F, G, h1, h2, h3, h4, h5, h6⟩ := h
  exact ⟨F, G, h1, fun k h => ⟨(h2 k h).1, (h2 k h).2.1, fun e => e⟩, fun k h => ⟨(h3 k h).1, (h3 k h).2.1, fun e => e⟩, fun k h => h.elim, h5, h6⟩
theorem kx_of {base : Nat} {w W W' : World} {F ex : Nat → Prop} (hs : base ≤ W.heap.size) (hF : ∀ k, F k → base ≤ k ∧ ¬ ex k) (hk : Kept W F W') : Kx base w W ex W' :=
  ⟨fun h => below_kept h hk hs (fun k h => (hF k h).1), hk.size, fun k hl he => hk.block k hl (fun h => (hF k h).2 he)⟩
theorem Pr.fst {base p x L : Nat} {W W' : World} {s' t : SS} {ex F G : Nat → Prop} (h1 : ∀ k, F k → ¬ G k) (h2 : ∀ k, F k → base ≤ k ∧ k < W.heap.size ∧ ¬ ex k) (h3 : ∀ k, G k → base ≤ k ∧ k < W.heap.size ∧ ¬ ex k) (h4 : ∀ k, ex k → k < W.heap.size) (h6 : RefAt W x t G L) (hs : StreamAt W' p s' (New W F)) (hk : Kept W F W') (hb : base ≤ W.heap.size) : Pr base W' p x s' t L ex :=
  ⟨fun k => New W F k ∧ k < W'.heap.size, G, fun k h hg => h.1.elim (fun h => h1 k h hg) (fun h => by have h : W.heap.size ≤ k := h; have := (h3 k hg).2.1; omega),
   fun k h => ⟨h.1.elim (fun h => (h2 k h).1) (fun h => Nat.le_trans hb h), h.2, fun e => h.1.elim (fun h => (h2 k h).2.2 e) (fun h => by have h : W.heap.size ≤ k := h; have := h4 k e; omega)⟩,
   fun k h => ⟨(h3 k h).1, Nat.lt_of_lt_of_le (h3 k h).2.1 hk.size, (h3 k h).2.2⟩, fun k h => Nat.lt_of_lt_of_le (h4 k h) hk.size,
   hs.mono (fun k h hl => ⟨h, hl⟩), h6.step (fun k h hl => hk.block k hl (fun hf => h1 k hf h))⟩
theorem Pr.snd {base p x M : Nat} {W W' : World} {s t' : SS} {ex F G : Nat → Prop} (h1 : ∀ k, F k → ¬ G k) (h2 : ∀ k, F k → base ≤ k ∧ k < W.heap.size ∧ ¬ ex k) (h3 : ∀ k, G k → base ≤ k ∧ k < W.heap.size ∧ ¬ ex k) (h4 : ∀ k, ex k → k < W.heap.size) (h5 : StreamAt W p s F) (hs : RefAt W' x t' (New W G) M) (hk : Kept W G W') (hb : base ≤ W.heap.size) : Pr base W' p x s t' M ex :=
  ⟨F, fun k => New W G k ∧ k < W'.heap.size, fun k hf h => h.1.elim (fun h => h1 k hf h) (fun h => by have h : W.heap.size ≤ k := h; have := (h2 k hf).2.1; omega),
   fun k h => ⟨(h2 k h).1, Nat.lt_of_lt_of_le (h2 k h).2.1 hk.size, (h2 k h).2.2⟩,
   fun k h => ⟨h.1.elim (fun h => (h3 k h).1) (fun h => Nat.le_trans hb h), h.2, fun e => h.1.elim (fun h => (h3 k h).2.2 e) (fun h => by have h : W.heap.size ≤ k := h; have := h4 k e; omega)⟩,
   fun k h => Nat.lt_of_lt_of_le (h4 k h) hk.size,
   h5.step (fun k h hl => hk.block k hl (fun hg => h1 k h hg)), hs.mono (fun k h hl => ⟨h, hl⟩)⟩
theorem pr_put {base p x L : Nat} {w W : World} {s t : SS} {ex : Nat → Prop} {A : Option Addr} {c : Nat} {ys : List Int} (h : Pr base W p x s t L ex) (hb : base ≤ W.heap.size) (hy : Kd.C (Kd.int .u8) W A ys.length ys) (hbb : Bytes ys) :
    Calls Try.prog 23 #[.pointer (some ⟨p, 0, none⟩), .slice A ys.length c] W (fun e W' => e = .returned (.int .i64 (s.put ys).2) ∧ Pr base W' p x (s.put ys).1 t L ex ∧ Kx base w W ex W') := by
  obtain ⟨F, G, h1, h2, h3, h4, h5, h6⟩ := h
  refine (sput_calls W p s F A c ys h5 hy hbb).mono ?_
  rintro e W' ⟨rfl, hs, hk⟩
  exact ⟨rfl, Pr.fst h1 h2 h3 h4 h6 hs hk hb, kx_of hb (fun k h => ⟨(h2 k h).1, (h2 k h).2.2⟩) hk⟩
theorem pr_end {base p x L : Nat} {w W : World} {s t : SS} {ex : Nat → Prop} (h : Pr base W p x s t L ex) (hb : base ≤ W.heap.size) :
    Calls Try.prog 36 #[.pointer (some ⟨p, 0, none⟩)] W (fun e W' => e = .returned (.int .i64 s.fin.2) ∧ Pr base W' p x s.fin.1 t L ex ∧ Kx base w W ex W') := by
  obtain ⟨F, G, h1, h2, h3, h4, h5, h6⟩ := h
  refine (send_calls W p s F h5).mono ?_
  rintro e W' ⟨⟨rfl, hs, hk⟩, _⟩
  exact ⟨rfl, Pr.fst h1 h2 h3 h4 h6 hs hk hb, kx_of hb (fun k h => ⟨(h2 k h).1, (h2 k h).2.2⟩) hk⟩
theorem pr_get {base p x L : Nat} {w W : World} {s t : SS} {ex : Nat → Prop} {n : Int} (h : Pr base W p x s t L ex) (hb : base ≤ W.heap.size) (hn : n ≤ 9223372036854775807) :
    Calls Try.prog 24 #[.pointer (some ⟨p, 0, none⟩), .int .i64 n] W (fun e W' => ∃ A c, e = .returned (.tuple #[.slice A (s.get n).out.length c, .bool (s.get n).whole, .int .i64 (s.get n).err]) ∧ OB W' W.heap.size (.slice A (s.get n).out.length c) (s.get n).out ∧ Pr base W' p x (s.get n).st t L (fun k => ex k ∨ (Value.slice A (s.get n).out.length c).ownBlock = some k) ∧ Kx base w W ex W') := by
  obtain ⟨F, G, h1, h2, h3, h4, h5, h6⟩ := h
  refine (sget_calls W p s F n h5 hn).mono ?_
  rintro e W' ⟨v, rfl, hs, ho, hk⟩
  obtain ⟨A, c, rfl, _⟩ := ho.reads
  refine ⟨A, c, rfl, ho, ⟨F, G, h1, fun k h => ⟨(h2 k h).1, Nat.lt_of_lt_of_le (h2 k h).2.1 hk.size, ?_⟩, fun k h => ⟨(h3 k h).1, Nat.lt_of_lt_of_le (h3 k h).2.1 hk.size, ?_⟩, ?_, hs, h6.step (fun k h hl => hk.block k hl (fun hf => h1 k hf h))⟩, kx_of hb (fun k h => ⟨(h2 k h).1, (h2 k h).2.2⟩) hk⟩
  · rintro (e | e)
    · exact (h2 k h).2.2 e
    · have := (QB.block (QB.of_OB ho) e).1; have := (h2 k h).2.1; omega
  · rintro (e | e)
    · exact (h3 k h).2.2 e
    · have := (QB.block (QB.of_OB ho) e).1; have := (h3 k h).2.1; omega
  · rintro k (e | e)
    · exact Nat.lt_of_lt_of_le (h4 k e) hk.size
    · exact (QB.block (QB.of_OB ho) e).2
theorem pr_held {base p x L : Nat} {W : World} {s t : SS} {ex : Nat → Prop} (h : Pr base W p x s t L ex) : Calls Try.prog 25 #[.pointer (some ⟨p, 0, none⟩)] W (fun e W' => e = .returned (.int .i64 s.held.length) ∧ W' = W) := by
  obtain ⟨F, G, h1, h2, h3, h4, h5, h6⟩ := h
  exact sheld_calls W p s F h5
theorem pr_xheld {base p x L : Nat} {W : World} {s t : SS} {ex : Nat → Prop} (h : Pr base W p x s t L ex) (hL : L ≤ 140737488355328) : Calls Try.prog 38 #[.pointer (some ⟨x, 0, none⟩)] W (fun e W' => e = .returned (.int .i64 t.held.length) ∧ Below W.heap.size W W') := by
  obtain ⟨F, G, h1, h2, h3, h4, h5, h6⟩ := h
  exact xheld_calls W x L t G h6 hL
theorem pr_xput {base p x L : Nat} {w W : World} {s t : SS} {ex : Nat → Prop} {A : Option Addr} {c : Nat} {ys : List Int} (h : Pr base W p x s t L ex) (hb : base ≤ W.heap.size) (hy : Kd.C (Kd.int .u8) W A ys.length ys) (hbb : Bytes ys) (hL : L + ys.length ≤ 140737488355328) :
    Calls Try.prog 34 #[.pointer (some ⟨x, 0, none⟩), .slice A ys.length c] W (fun e W' => e = .returned (.int .i64 (t.put ys).2) ∧ Pr base W' p x s (t.put ys).1 (L + ys.length) ex ∧ Kx base w W ex W') := by
  obtain ⟨F, G, h1, h2, h3, h4, h5, h6⟩ := h
  refine (xput_calls W x L t G A c ys h6 hy hbb hL).mono ?_
  rintro e W' ⟨rfl, hs, hk⟩
  exact ⟨rfl, Pr.snd h1 h2 h3 h4 h5 hs hk hb, kx_of hb (fun k h => ⟨(h3 k h).1, (h3 k h).2.2⟩) hk⟩
theorem pr_xend {base p x L : Nat} {w W : World} {s t : SS} {ex : Nat → Prop} (h : Pr base W p x s t L ex) (hb : base ≤ W.heap.size) :
    Calls Try.prog 37 #[.pointer (some ⟨x, 0, none⟩)] W (fun e W' => e = .returned (.int .i64 t.fin.2) ∧ Pr base W' p x s t.fin.1 L ex ∧ Kx base w W ex W') := by
  obtain ⟨F, G, h1, h2, h3, h4, h5, h6⟩ := h
  refine (xend_calls W x L t G h6).mono ?_
  rintro e W' ⟨rfl, hs, hk⟩
  exact ⟨rfl, Pr.snd h1 h2 h3 h4 h5 hs hk hb, kx_of hb (fun k h => ⟨(h3 k h).1, (h3 k h).2.2⟩) hk⟩
theorem pr_xget {base p x L : Nat} {w W : World} {s t : SS} {ex : Nat → Prop} {n : Int} (h : Pr base W p x s t L ex) (hb : base ≤ W.heap.size) (hL : L ≤ 140737488355328) :
    Calls Try.prog 35 #[.pointer (some ⟨x, 0, none⟩), .int .i64 n] W (fun e W' => ∃ A c, e = .returned (.tuple #[.slice A (t.get n).out.length c, .bool (t.get n).whole, .int .i64 (t.get n).err]) ∧ OB W' W.heap.size (.slice A (t.get n).out.length c) (t.get n).out ∧ Pr base W' p x s (t.get n).st L ex ∧ Kx base w W ex W') := by
  obtain ⟨F, G, h1, h2, h3, h4, h5, h6⟩ := h
  refine (xget_calls W x L t G n h6 hL).mono ?_
  rintro e W' ⟨v, rfl, hs, ho, hk⟩
  obtain ⟨A, c, rfl, _⟩ := ho.reads
  exact ⟨A, c, rfl, ho, ⟨F, G, h1, fun k h => ⟨(h2 k h).1, Nat.lt_of_lt_of_le (h2 k h).2.1 hk.size, (h2 k h).2.2⟩, fun k h => ⟨(h3 k h).1, Nat.lt_of_lt_of_le (h3 k h).2.1 hk.size, (h3 k h).2.2⟩, fun k h => Nat.lt_of_lt_of_le (h4 k h) hk.size, h5.step (fun k h hl => hk.block k hl (fun hg => h1 k h hg)), hs⟩, kx_of hb (fun k h => ⟨(h3 k h).1, (h3 k h).2.2⟩) hk⟩
theorem OB.kx {base b0 : Nat} {w W W' : World} {ex : Nat → Prop} {v : Value} {xs : List Int} (h : OB W b0 v xs) (hk : Kx base w W ex W') (he : ∀ k, v.ownBlock = some k → ex k) : OB W' b0 v xs :=
  own_move h (fun k e => hk.block k (own_lt h k e) (he k e))
theorem Kx.trans {base : Nat} {w W W1 W2 : World} {ex : Nat → Prop} (h : Kx base w W ex W1) (h2 : Kx base w W1 ex W2) : Kx base w W ex W2 :=
  ⟨fun hb => h2.below (h.below hb), Nat.le_trans h.size h2.size, fun k hl he => (h2.block k (Nat.lt_of_lt_of_le hl h.size) he).trans (h.block k hl he)⟩
end Go.Proofs.Ytilogpjbdemceaa.Oct
