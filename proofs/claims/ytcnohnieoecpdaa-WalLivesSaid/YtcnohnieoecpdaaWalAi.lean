import Derived.Test.YtcnohnieoecpdaaWalAh
/- A log and the document's log, which share nothing. -/
namespace Go.Proofs.Ytcnohnieoecpdaa.Oct
open Go.RowKit Go.Proofs.YtcnohnieoecpdaaW.PrintWords Go.Proofs.Ytcnohnieoecpdaa.M
set_option linter.unusedVariables false
set_option linter.unusedSimpArgs false
theorem LgAt.reex {base : Nat} {W : World} {q p : Nat} {t : TS} {ls : List Rc} {ex ex' : Nat → Prop} (h : LgAt base W q p t ls ex) (he : ∀ k, ex' k → k < W.heap.size → ex k) : LgAt base W q p t ls ex' := by
  obtain ⟨F, G, h1, h2, h3, h4, h5⟩ := h
  exact ⟨F, G, h1, h2, h3, fun k hk => ⟨(h4 k hk).1, (h4 k hk).2.1, fun e => (h4 k hk).2.2 (he k e (h4 k hk).2.1)⟩, fun k hk => ⟨(h5 k hk).1, (h5 k hk).2.1, fun e => (h5 k hk).2.2 (he k e (h5 k hk).2.1)⟩⟩
theorem KX.sub {base : Nat} {W W' : World} {ex ex' : Nat → Prop} (h : KX base W ex W') (hs : ∀ k, ex' k → ex k) : KX base W ex' W' := ⟨h.below, fun k a b => h.block k (hs k a) b⟩
/-- two tapes; X: what is neither's -/
def TwoT (base : Nat) (W : World) (p : Nat) (t : TS) (x : Nat) (u : TS) (X : Nat → Prop) : Prop :=
  ∃ F T : Nat → Prop, TapeAt W p t F ∧ RefAt W x u T ∧ (∀ k, F k → ¬ T k) ∧ (∀ k, F k → base ≤ k ∧ k < W.heap.size ∧ ¬ X k) ∧ (∀ k, T k → base ≤ k ∧ k < W.heap.size ∧ ¬ X k) ∧ (∀ k, X k → k < W.heap.size) ∧ base ≤ W.heap.size
theorem TwoT.below {base : Nat} {W W' : World} {p x : Nat} {t u : TS} {X : Nat → Prop} (h : TwoT base W p t x u X) (hb : Below W.heap.size W W') : TwoT base W' p t x u X := by
  obtain ⟨F, T, h1, h2, h3, h4, h5, h6, h7⟩ := h
  have hs := hb.size
  exact ⟨F, T, h1.below hb, h2.below hb, h3, fun k a => ⟨(h4 k a).1, Nat.lt_of_lt_of_le (h4 k a).2.1 hs, (h4 k a).2.2⟩, fun k a => ⟨(h5 k a).1, Nat.lt_of_lt_of_le (h5 k a).2.1 hs, (h5 k a).2.2⟩, fun k a => Nat.lt_of_lt_of_le (h6 k a) hs, Nat.le_trans h7 hs⟩
theorem TwoT.real {base : Nat} {W : World} {p x : Nat} {t t' u : TS} {n : Int} {X : Nat → Prop} {f : Nat} {args : Array Value} (h : TwoT base W p t x u X) (hc : ∀ F, TapeAt W p t F → Calls Try.prog f args W (RetT W p F t' n)) :
    Calls Try.prog f args W (fun e W' => e = .returned (.int .i64 n) ∧ TwoT base W' p t' x u X ∧ KX base W X W') := by
  obtain ⟨F, T, h1, h2, h3, h4, h5, h6, h7⟩ := h
  have hp : F p := by obtain ⟨_, _, _, _, hp, _⟩ := h1; exact hp
  refine (hc F h1).mono ?_
  rintro e W' ⟨rfl, ht, hg⟩
  have hk : Kept W F W' := Kept.of_grown1 hg hp
  have hs := hk.size
  refine ⟨rfl, ⟨fun k => New W F k ∧ k < W'.heap.size, T, ht.mono (fun k a b => ⟨a, b⟩), h2.step (fun k a b => hk.block k b (fun c => h3 k c a)), ?_, ?_, fun k a => ⟨(h5 k a).1, Nat.lt_of_lt_of_le (h5 k a).2.1 hs, (h5 k a).2.2⟩, fun k a => Nat.lt_of_lt_of_le (h6 k a) hs, Nat.le_trans h7 hs⟩, KX.of_kept hk h7 (fun k a => ⟨(h4 k a).1, (h4 k a).2.2⟩)⟩
  · rintro k ⟨a | a, _⟩ b
    · exact h3 k a b
    · have := (h5 k b).2.1
      have a' : W.heap.size ≤ k := a
      omega
  · rintro k ⟨a | a, b⟩
    · exact ⟨(h4 k a).1, b, (h4 k a).2.2⟩
    · have a' : W.heap.size ≤ k := a
      exact ⟨by omega, b, fun c => by have := h6 k c; omega⟩
theorem TwoT.ref {base : Nat} {W : World} {p x : Nat} {t u u' : TS} {n : Int} {X : Nat → Prop} {f : Nat} {args : Array Value} (h : TwoT base W p t x u X) (hc : ∀ T, RefAt W x u T → Calls Try.prog f args W (RetR W x T u' n)) :
    Calls Try.prog f args W (fun e W' => e = .returned (.int .i64 n) ∧ TwoT base W' p t x u' X ∧ KX base W X W') := by
  obtain ⟨F, T, h1, h2, h3, h4, h5, h6, h7⟩ := h
  refine (hc T h2).mono ?_
  rintro e W' ⟨rfl, ht, hk⟩
  have hs := hk.size
  refine ⟨rfl, ⟨F, fun k => New W T k ∧ k < W'.heap.size, h1.step hs (fun k a b => hk.block k b (h3 k a)), ht.mono (fun k a b => ⟨a, b⟩), ?_, fun k a => ⟨(h4 k a).1, Nat.lt_of_lt_of_le (h4 k a).2.1 hs, (h4 k a).2.2⟩, ?_, fun k a => Nat.lt_of_lt_of_le (h6 k a) hs, Nat.le_trans h7 hs⟩, KX.of_kept hk h7 (fun k a => ⟨(h5 k a).1, (h5 k a).2.2⟩)⟩
  · rintro k a ⟨b | b, _⟩
    · exact h3 k a b
    · have := (h4 k a).2.1
      have b' : W.heap.size ≤ k := b
      omega
  · rintro k ⟨a | a, b⟩
    · exact ⟨(h5 k a).1, b, (h5 k a).2.2⟩
    · have a' : W.heap.size ≤ k := a
      exact ⟨by omega, b, fun c => by have := h6 k c; omega⟩
/-- a log, and the document's tape -/
def HalfL (base top : Nat) (W : World) (q p : Nat) (t : TS) (ls : List Rc) (x : Nat) (u : TS) (X : Nat → Prop) : Prop :=
  ∃ T : Nat → Prop, (∀ k, T k → k < top) ∧ LgAt base W q p t ls (fun k => T k ∨ X k) ∧ RefAt W x u T ∧ (∀ k, T k → base ≤ k ∧ k < W.heap.size ∧ ¬ X k) ∧ (∀ k, X k → k < W.heap.size) ∧ base ≤ W.heap.size
theorem TwoT.opens {base : Nat} {W : World} {p x : Nat} {t u : TS} {X : Nat → Prop} (h : TwoT base W p t x u X) : Calls Try.prog 21 #[.pointer (some ⟨p, 0, none⟩)] W (fun e W' => ∃ q A c, e = .returned (.tuple #[.pointer (some ⟨q, 0, none⟩), .slice A (recsOf t.bs).length c, .int .i64 0]) ∧
    HalfL base W.heap.size W' q p t.opened (recsOf t.bs) x u X ∧ RW W' W.heap.size (.slice A (recsOf t.bs).length c) (recsOf t.bs) ∧ KX base W X W') := by
  obtain ⟨F, T, h1, h2, h3, h4, h5, h6, h7⟩ := h
  have hp : F p := by obtain ⟨_, _, _, _, hp, _⟩ := h1; exact hp
  refine (open_calls W p t F h1).mono ?_
  rintro e W' ⟨q, A, c, v, rfl, hr, hq, hh, hv, ht, hg⟩
  have hs := hg.size
  have hk : Kept W F W' := Kept.of_grown1 hg hp
  refine ⟨q, A, c, rfl, ⟨T, fun k a => (h5 k a).2.1, ⟨F, fun k => W.heap.size ≤ k ∧ k < W'.heap.size, ht, ⟨v, hh, LR.of_RW hv, hq, (Array.getElem?_eq_some_iff.1 hh).1⟩, fun k a b => by have := (h4 k a).2.1; omega, fun k a => ⟨(h4 k a).1, Nat.lt_of_lt_of_le (h4 k a).2.1 hs, fun e => e.elim (h3 k a) (h4 k a).2.2⟩, fun k a => ⟨by omega, a.2, fun e => e.elim (fun e => by have := (h5 k e).2.1; omega) (fun e => by have := h6 k e; omega)⟩⟩,
    h2.step (fun k a b => hk.block k b (fun c => h3 k c a)), fun k a => ⟨(h5 k a).1, Nat.lt_of_lt_of_le (h5 k a).2.1 hs, (h5 k a).2.2⟩, fun k a => Nat.lt_of_lt_of_le (h6 k a) hs, Nat.le_trans h7 hs⟩, hr, KX.of_kept hk h7 (fun k a => ⟨(h4 k a).1, (h4 k a).2.2⟩)⟩
/-- a log and the document's log; X: what is neither's -/
def TwoL (base : Nat) (W : World) (q p : Nat) (t : TS) (ls : List Rc) (y x : Nat) (u : TS) (us : List Rc) (X : Nat → Prop) : Prop :=
  ∃ H : Nat → Prop, LgAt base W q p t ls (fun k => H k ∨ X k) ∧ MAt base W y x u us H ∧ (∀ k, H k → base ≤ k ∧ k < W.heap.size ∧ ¬ X k) ∧ (∀ k, X k → k < W.heap.size) ∧ base ≤ W.heap.size
theorem HalfL.opens {base top : Nat} {W : World} {q p x : Nat} {t u : TS} {ls : List Rc} {X : Nat → Prop} (h : HalfL base top W q p t ls x u X) : Calls Try.prog 33 #[.pointer (some ⟨x, 0, none⟩)] W (fun e W' => ∃ y A c, e = .returned (.tuple #[.pointer (some ⟨y, 0, none⟩), .slice A (recsOf u.bs).length c]) ∧
    TwoL base W' q p t ls y x u.opened (recsOf u.bs) X ∧ recK.C W' A (recsOf u.bs).length (recsOf u.bs) ∧ KX base W X W' ∧ ∀ k, top ≤ k → k < W.heap.size → W'.heap[k]? = W.heap[k]?) := by
  obtain ⟨T, h0, h1, h2, h3, h4, h5⟩ := h
  refine (ropen_calls W base x u T h2 (fun k a => ⟨(h3 k a).1, (h3 k a).2.1⟩) h5).mono ?_
  rintro e W' ⟨y, A, c, rfl, hm, hc, hy, hk⟩
  have hs := hk.size
  refine ⟨y, A, c, rfl, ⟨fun k => New W T k ∧ k < W'.heap.size, ?_, hm, ?_, fun k a => Nat.lt_of_lt_of_le (h4 k a) hs, Nat.le_trans h5 hs⟩, hc, KX.of_kept hk h5 (fun k a => ⟨(h3 k a).1, (h3 k a).2.2⟩), fun k a b => hk.block k b (fun c => by have := h0 k c; omega)⟩
  · refine (h1.reex (ex' := fun k => (New W T k ∧ k < W'.heap.size) ∨ X k) ?_).step hs (fun k a b => hk.block k b (fun c => a (.inl ⟨.inl c, Nat.lt_of_lt_of_le b hs⟩)))
    rintro k (⟨a | a, _⟩ | a) b
    · exact .inl a
    · have a' : W.heap.size ≤ k := a
      omega
    · exact .inr a
  · rintro k ⟨a | a, b⟩
    · exact ⟨(h3 k a).1, b, (h3 k a).2.2⟩
    · have a' : W.heap.size ≤ k := a
      exact ⟨by omega, b, fun c => by have := h4 k c; omega⟩
theorem TwoL.tapes {base : Nat} {W : World} {q p y x : Nat} {t u : TS} {ls us : List Rc} {X : Nat → Prop} (h : TwoL base W q p t ls y x u us X) : TwoT base W p t x u X := by
  obtain ⟨H, ⟨F, G, a1, a2, a3, a4, a5⟩, ⟨T, L, D, v, b1, b2, b3, b4, b5, b6, b7⟩, h3, h4, h5⟩ := h
  exact ⟨F, T, a1, b1, fun k a b => (a4 k a).2.2 (.inl (b7 k (.inl b)).2.2), fun k a => ⟨(a4 k a).1, (a4 k a).2.1, fun e => (a4 k a).2.2 (.inr e)⟩, fun k a => ⟨(b7 k (.inl a)).1, (b7 k (.inl a)).2.1, (h3 k (b7 k (.inl a)).2.2).2.2⟩, h4, h5⟩
theorem TwoL.below {base : Nat} {W W' : World} {q p y x : Nat} {t u : TS} {ls us : List Rc} {X X' : Nat → Prop} (h : TwoL base W q p t ls y x u us X) (hb : Below W.heap.size W W') (hX : ∀ k, X' k → W.heap.size ≤ k ∨ X k) (hX' : ∀ k, X' k → k < W'.heap.size) : TwoL base W' q p t ls y x u us X' := by
  obtain ⟨H, h1, h2, h3, h4, h5⟩ := h
  have hs := hb.size
  exact ⟨H, (h1.reex (ex' := fun k => H k ∨ X' k) (fun k a b => a.elim .inl (fun a => (hX k a).elim (fun c => by omega) .inr))).below hb, h2.below hb h5, fun k a => ⟨(h3 k a).1, Nat.lt_of_lt_of_le (h3 k a).2.1 hs, fun c => (hX k c).elim (fun d => by have := (h3 k a).2.1; omega) (h3 k a).2.2⟩, hX', Nat.le_trans h5 hs⟩
theorem TwoL.real {base : Nat} {W : World} {q p y x : Nat} {t u : TS} {ls us : List Rc} {r : TS × List Rc × Int} {X : Nat → Prop} {f : Nat} {args : Array Value} (h : TwoL base W q p t ls y x u us X)
    (hc : ∀ ex, LgAt base W q p t ls ex → (∀ k, ex k → k < W.heap.size) → (∀ k, X k → ex k) → Calls Try.prog f args W (RetAdd base W q p ex r)) : Calls Try.prog f args W (fun e W' => e = .returned (.int .i64 r.2.2) ∧ TwoL base W' q p r.1 r.2.1 y x u us X ∧ KX base W X W') := by
  obtain ⟨H, h1, h2, h3, h4, h5⟩ := h
  refine (hc _ h1 (fun k a => a.elim (fun a => (h3 k a).2.1) (h4 k)) (fun k a => .inr a)).mono ?_
  rintro e W' ⟨rfl, hl, hk⟩
  have hs := hk.below.size
  exact ⟨rfl, ⟨H, hl, h2.step (hk.sub (fun k a => .inl a)), fun k a => ⟨(h3 k a).1, Nat.lt_of_lt_of_le (h3 k a).2.1 hs, (h3 k a).2.2⟩, fun k a => Nat.lt_of_lt_of_le (h4 k a) hs, Nat.le_trans h5 hs⟩, hk.sub (fun k a => .inr a)⟩
theorem TwoL.model {base : Nat} {W : World} {q p y x : Nat} {t u u' : TS} {ls us us' : List Rc} {n : Int} {X : Nat → Prop} {f : Nat} {args : Array Value} (h : TwoL base W q p t ls y x u us X)
    (hc : ∀ H, MAt base W y x u us H → (∀ k, H k → base ≤ k ∧ k < W.heap.size) → Calls Try.prog f args W (RetM base W y x H u' us' n)) : Calls Try.prog f args W (fun e W' => e = .returned (.int .i64 n) ∧ TwoL base W' q p t ls y x u' us' X ∧ KX base W X W') := by
  obtain ⟨H, h1, h2, h3, h4, h5⟩ := h
  refine (hc H h2 (fun k a => ⟨(h3 k a).1, (h3 k a).2.1⟩)).mono ?_
  rintro e W' ⟨rfl, hm, hk⟩
  have hs := hk.size
  refine ⟨rfl, ⟨fun k => New W H k ∧ k < W'.heap.size, ?_, hm, ?_, fun k a => Nat.lt_of_lt_of_le (h4 k a) hs, Nat.le_trans h5 hs⟩, KX.of_kept hk h5 (fun k a => ⟨(h3 k a).1, (h3 k a).2.2⟩)⟩
  · refine (h1.reex (ex' := fun k => (New W H k ∧ k < W'.heap.size) ∨ X k) ?_).step hs (fun k a b => hk.block k b (fun c => a (.inl ⟨.inl c, Nat.lt_of_lt_of_le b hs⟩)))
    rintro k (⟨a | a, _⟩ | a) b
    · exact .inl a
    · have a' : W.heap.size ≤ k := a
      omega
    · exact .inr a
  · rintro k ⟨a | a, b⟩
    · exact ⟨(h3 k a).1, b, (h3 k a).2.2⟩
    · have a' : W.heap.size ≤ k := a
      exact ⟨by omega, b, fun c => by have := h4 k c; omega⟩
end Go.Proofs.Ytcnohnieoecpdaa.Oct
