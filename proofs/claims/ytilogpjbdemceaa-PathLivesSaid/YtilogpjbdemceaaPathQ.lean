import Derived.Test.YtilogpjbdemceaaPathP
import Derived.Test.YtilogpjbdemceaaPathH
/- A path beside the document's path; SameLists. -/
namespace Go.Proofs.Ytilogpjbdemceaa.Oct
open Go.RowKit Go.Proofs.YtilogpjbdemceaaW.PrintWords Go.Proofs.Ytilogpjbdemceaa.M
set_option linter.unusedVariables false
set_option linter.unusedSimpArgs false
/-- texts that are read -/
def TR (w : World) (A : Option Addr) (l : Bag) : Prop := ∀ k, k < l.length → ∃ ad u du, A = some ad ∧ w.cell? (ad.add k) = some (.slice u (l.getD k []).length du) ∧ Kd.C (Kd.int .u8) w u (l.getD k []).length (l.getD k [])
theorem TR.below {w w' : World} {A : Option Addr} {l : Bag} (h : TR w A l) (hb : Below w.heap.size w w') : TR w' A l := fun k hk => by
  obtain ⟨ad, u, du, e, hc, hr⟩ := h k hk
  exact ⟨ad, u, du, e, (hb.cell (World.block_lt_of_cell? _ _ hc)).trans hc, Kd.C_below hr hb⟩
theorem Txts.tr {W : World} {base n c : Nat} {A : Option Addr} {ls : Bag} (h : Txts W base (.slice A n c) ls) : TR W A ls := fun k hk => by
  obtain ⟨g, off, Au, du, rfl, hc, hq⟩ := h.get hk
  obtain ⟨A', c', e, _, _, hr⟩ := hq.form
  injection e with e1 e2 e3
  subst e1
  exact ⟨_, Au, du, rfl, by rw [Addr.add_lit]; exact hc, hr⟩
theorem RPathAt.tr {W : World} {p : Nat} {bag : Bag} {F : Nat → Prop} (h : RPathAt W p bag F) : ∃ A c, W.cell? ⟨p, 0, none⟩ = some (.slice A bag.length c) ∧ TR W A bag := by
  obtain ⟨A, c, hc, hh⟩ := h.row
  refine ⟨A, c, (one_cell hh).1, fun k hk => ?_⟩
  obtain ⟨g, off, d, Au, du, c0, c1, hC, _⟩ := h.get hk
  rw [(one_cell hh).1] at c0
  injection c0 with c0
  injection c0 with e1 e2 e3
  exact ⟨_, Au, du, e1, by rw [Addr.add_lit]; exact c1, hC⟩
set_option maxHeartbeats 1000000 in
theorem slists_calls (w : World) (l : Bag) (A B : Option Addr) (c d : Nat) (hll : l.length ≤ 9223372036854775807) (h : TR w A l) (h2 : TR w B l) :
    Calls Try.prog 33 #[.slice A l.length c, .slice B l.length d] w fun e w' => e = .returned (.bool true) ∧ Below w.heap.size w w' := by
  have HL := Aside0.mk h
  have HR := Aside0.mk h2
  clear h h2
  go_enter Try.func33, Try.ntmps33
  go_wp2_with fail
  go_loopw [5] (fun v5 wr => ∃ (k : Nat), k ≤ l.length ∧ v5 = .int .i64 k ∧ Aside0 (Below w.heap.size w wr)) (fun v _ => l.length - (intOf v).toNat)
  case atStart => exact ⟨0, by omega, rfl, ⟨Below.refl _ _⟩⟩
  case round =>
    obtain ⟨k, hk, rfl, HB⟩ := hrel
    by_cases hlt : k < l.length
    · obtain ⟨ad, B1, d1, rfl, hcell1, hrd1⟩ := HL.out k hlt
      obtain ⟨ad2, B2, d2, rfl, hcell2, hrd2⟩ := HR.out k hlt
      obtain ⟨q, hq⟩ : ∃ q, q = l.getD k [] := ⟨_, rfl⟩
      rw [← hq] at hcell1 hcell2 hrd1 hrd2
      clear hq
      obtain ⟨n, hn⟩ : ∃ n, n = q.length := ⟨_, rfl⟩
      rw [← hn] at hcell1 hcell2 hrd1 hrd2
      have HS : Aside0 (∀ W, Below w.heap.size w W → W.cell? (ad.add k) = some (.slice B1 n d1) ∧ W.cell? (ad2.add k) = some (.slice B2 n d2) ∧ (convert 26 9 (.slice B1 n d1)).run Try.prog W = .ok (.string (strOfNums q)) W ∧ (convert 26 9 (.slice B2 n d2)).run Try.prog W = .ok (.string (strOfNums q)) W) := ⟨fun W hW => by
        exact ⟨(hW.cell (World.block_lt_of_cell? _ _ hcell1)).trans hcell1, (hW.cell (World.block_lt_of_cell? _ _ hcell2)).trans hcell2, Kd.C_string Try.underlying26 Try.underlying5 Try.underlying9 (Kd.C_below hrd1 hW), Kd.C_string Try.underlying26 Try.underlying5 Try.underlying9 (Kd.C_below hrd2 hW)⟩⟩
      obtain ⟨S, hS⟩ : ∃ S, S = strOfNums q := ⟨_, rfl⟩
      rw [← hS] at HS
      have HBD : Aside0 (Below w.heap.size w wr.drew) := ⟨below_drew HB.out⟩
      clear hn hS hrd1 hrd2 hcell1 hcell2
      go_wp2_with fail
      go_region_held_law (fun W => W.cell? (ad.add k) = some (.slice B1 n d1) ∧ W.cell? (ad2.add k) = some (.slice B2 n d2) ∧ (convert 26 9 (.slice B1 n d1)).run Try.prog W = .ok (.string S) W ∧ (convert 26 9 (.slice B2 n d2)).run Try.prog W = .ok (.string S) W) (exact HS.out _ HBD.out) (fail)
      all_goals
        go_wp2_with fail
        refine ⟨⟨k + 1, by omega, by go_num, HBD⟩, by simp [intOf]; omega⟩
    · obtain rfl : k = l.length := by omega
      go_wp2_with fail
      go_ret
      exact ⟨rfl, HB.out⟩
/-- a path, and the document's beside it; ex: what is neither's -/
def TwoP (base : Nat) (W : World) (p x : Nat) (s t : Bag) (ex : Nat → Prop) : Prop :=
  ∃ F G : Nat → Prop, PathAt W p s F ∧ RPathAt W x t G ∧ (∀ k, F k → ¬ G k) ∧ (∀ k, F k → base ≤ k ∧ k < W.heap.size ∧ ¬ ex k) ∧ (∀ k, G k → base ≤ k ∧ k < W.heap.size ∧ ¬ ex k)
/-- what a call leaves as it was -/
structure KX (base : Nat) (W : World) (ex : Nat → Prop) (W' : World) : Prop where
  below : Below base W W'
  block : ∀ k, ex k → k < W.heap.size → W'.heap[k]? = W.heap[k]?
theorem KX.trans {base : Nat} {W W1 W2 : World} {ex : Nat → Prop} (h : KX base W ex W1) (h2 : KX base W1 ex W2) : KX base W ex W2 := ⟨h.below.trans h2.below, fun k hk hl => (h2.block k hk (Nat.lt_of_lt_of_le hl h.below.size)).trans (h.block k hk hl)⟩
theorem KX.of_below {base : Nat} {W W' : World} {ex : Nat → Prop} (hb : Below W.heap.size W W') (h : base ≤ W.heap.size) : KX base W ex W' := ⟨hb.mono h, fun k _ hk => hb.block k hk⟩
theorem KX.of_kept {base : Nat} {W W' : World} {F ex : Nat → Prop} (hk : Kept W F W') (hb : base ≤ W.heap.size) (hF : ∀ k, F k → base ≤ k ∧ ¬ ex k) : KX base W ex W' :=
  ⟨below_kept (Below.refl base W) hk hb (fun k h => (hF k h).1), fun k he hl => hk.block k hl (fun h => (hF k h).2 he)⟩
theorem TwoP.step {base : Nat} {W W' : World} {p x : Nat} {s t : Bag} {ex : Nat → Prop} (h : TwoP base W p x s t ex) (hs : W.heap.size ≤ W'.heap.size) (hb : ∀ k, ¬ ex k → k < W.heap.size → W'.heap[k]? = W.heap[k]?) : TwoP base W' p x s t ex := by
  obtain ⟨F, G, h1, h2, h3, h4, h5⟩ := h
  exact ⟨F, G, h1.step (fun k hk hl => hb k (h4 k hk).2.2 hl), h2.step (fun k hk hl => hb k (h5 k hk).2.2 hl), h3, fun k hk => ⟨(h4 k hk).1, Nat.lt_of_lt_of_le (h4 k hk).2.1 hs, (h4 k hk).2.2⟩, fun k hk => ⟨(h5 k hk).1, Nat.lt_of_lt_of_le (h5 k hk).2.1 hs, (h5 k hk).2.2⟩⟩
theorem TwoP.below {base : Nat} {W W' : World} {p x : Nat} {s t : Bag} {ex : Nat → Prop} (h : TwoP base W p x s t ex) (hb : Below W.heap.size W W') : TwoP base W' p x s t ex := h.step hb.size (fun k _ hk => hb.block k hk)
/-- new blocks are neither's -/
theorem TwoP.ex {base : Nat} {W W' : World} {p x : Nat} {s t : Bag} {ex ex' : Nat → Prop} (h : TwoP base W p x s t ex) (hb : Below W.heap.size W W') (he : ∀ k, ex' k → W.heap.size ≤ k) : TwoP base W' p x s t ex' := by
  obtain ⟨F, G, h1, h2, h3, h4, h5⟩ := h.below hb
  obtain ⟨F0, G0, g1, g2, g3, g4, g5⟩ := h
  exact ⟨F0, G0, g1.below hb, g2.below hb, g3, fun k hk => ⟨(g4 k hk).1, Nat.lt_of_lt_of_le (g4 k hk).2.1 hb.size, fun e => by have := he k e; have := (g4 k hk).2.1; omega⟩, fun k hk => ⟨(g5 k hk).1, Nat.lt_of_lt_of_le (g5 k hk).2.1 hb.size, fun e => by have := he k e; have := (g5 k hk).2.1; omega⟩⟩
theorem TwoP.none {base : Nat} {W : World} {p x : Nat} {s t : Bag} {ex : Nat → Prop} (h : TwoP base W p x s t ex) : TwoP base W p x s t (fun _ => False) := by
  obtain ⟨F, G, h1, h2, h3, h4, h5⟩ := h
  exact ⟨F, G, h1, h2, h3, fun k hk => ⟨(h4 k hk).1, (h4 k hk).2.1, id⟩, fun k hk => ⟨(h5 k hk).1, (h5 k hk).2.1, id⟩⟩
theorem TwoP.fst {base : Nat} {W W' : World} {p x : Nat} {s' t : Bag} {F G ex : Nat → Prop} (hx : ∀ k, ex k → k < W.heap.size) (hbs : base ≤ W.heap.size) (h2 : RPathAt W x t G) (h3 : ∀ k, F k → ¬ G k) (h4 : ∀ k, F k → base ≤ k ∧ k < W.heap.size ∧ ¬ ex k) (h5 : ∀ k, G k → base ≤ k ∧ k < W.heap.size ∧ ¬ ex k)
    (ht : PathAt W' p s' (New W F)) (hk : Kept W F W') : (PathAt W' p s' (fun k => New W F k ∧ k < W'.heap.size) ∧ RPathAt W' x t G ∧ (∀ k, (New W F k ∧ k < W'.heap.size) → ¬ G k) ∧ (∀ k, (New W F k ∧ k < W'.heap.size) → base ≤ k ∧ k < W'.heap.size ∧ ¬ ex k) ∧ (∀ k, G k → base ≤ k ∧ k < W'.heap.size ∧ ¬ ex k)) ∧ KX base W ex W' := by
  refine ⟨⟨ht.mono (fun k h hl => ⟨h, hl⟩), h2.step (fun k hg hl => hk.block k hl (fun hf => h3 k hf hg)), ?_, ?_, fun k hg => ⟨(h5 k hg).1, Nat.lt_of_lt_of_le (h5 k hg).2.1 hk.size, (h5 k hg).2.2⟩⟩, KX.of_kept hk hbs (fun k hf => ⟨(h4 k hf).1, (h4 k hf).2.2⟩)⟩
  · rintro k ⟨hf | hn, _⟩ hg
    · exact h3 k hf hg
    · have := (h5 k hg).2.1
      have hn : W.heap.size ≤ k := hn
      omega
  · rintro k ⟨hf | hn, hl⟩
    · exact ⟨(h4 k hf).1, hl, (h4 k hf).2.2⟩
    · have hn : W.heap.size ≤ k := hn
      exact ⟨by omega, hl, fun e => by have := hx k e; omega⟩
theorem TwoP.snd {base : Nat} {W W' : World} {p x : Nat} {s t' : Bag} {F G ex : Nat → Prop} (hx : ∀ k, ex k → k < W.heap.size) (hbs : base ≤ W.heap.size) (h1 : PathAt W p s F) (h3 : ∀ k, F k → ¬ G k) (h4 : ∀ k, F k → base ≤ k ∧ k < W.heap.size ∧ ¬ ex k) (h5 : ∀ k, G k → base ≤ k ∧ k < W.heap.size ∧ ¬ ex k)
    (ht : RPathAt W' x t' (New W G)) (hk : Kept W G W') : TwoP base W' p x s t' ex ∧ KX base W ex W' := by
  refine ⟨⟨F, fun k => New W G k ∧ k < W'.heap.size, h1.step (fun k hf hl => hk.block k hl (fun hg => h3 k hf hg)), ht.mono (fun k h hl => ⟨h, hl⟩), ?_, fun k hf => ⟨(h4 k hf).1, Nat.lt_of_lt_of_le (h4 k hf).2.1 hk.size, (h4 k hf).2.2⟩, ?_⟩, KX.of_kept hk hbs (fun k hg => ⟨(h5 k hg).1, (h5 k hg).2.2⟩)⟩
  · rintro k hf ⟨hg | hn, _⟩
    · exact h3 k hf hg
    · have := (h4 k hf).2.1
      have hn : W.heap.size ≤ k := hn
      omega
  · rintro k ⟨hg | hn, hl⟩
    · exact ⟨(h5 k hg).1, hl, (h5 k hg).2.2⟩
    · have hn : W.heap.size ≤ k := hn
      exact ⟨by omega, hl, fun e => by have := hx k e; omega⟩
theorem TwoP.path {base : Nat} {W : World} {p x : Nat} {s s' t : Bag} {n : Int} {ex : Nat → Prop} {f : Nat} {args : Array Value} (h : TwoP base W p x s t ex) (hx : ∀ k, ex k → k < W.heap.size) (hbs : base ≤ W.heap.size)
    (hc : ∀ F, PathAt W p s F → Calls Try.prog f args W (RetP W p F s' n)) : Calls Try.prog f args W (fun e W' => e = .returned (.int .i64 n) ∧ TwoP base W' p x s' t ex ∧ KX base W ex W') := by
  obtain ⟨F, G, h1, h2, h3, h4, h5⟩ := h
  refine (hc F h1).mono ?_
  rintro e W' ⟨rfl, ht, hk⟩
  obtain ⟨⟨g1, g2, g3, g4, g5⟩, hkx⟩ := TwoP.fst hx hbs h2 h3 h4 h5 ht hk
  exact ⟨rfl, ⟨_, G, g1, g2, g3, g4, g5⟩, hkx⟩
theorem TwoP.ref {base : Nat} {W : World} {p x : Nat} {s t t' : Bag} {n : Int} {ex : Nat → Prop} {f : Nat} {args : Array Value} (h : TwoP base W p x s t ex) (hx : ∀ k, ex k → k < W.heap.size) (hbs : base ≤ W.heap.size)
    (hc : ∀ F, RPathAt W x t F → Calls Try.prog f args W (RetRP W x F t' n)) : Calls Try.prog f args W (fun e W' => e = .returned (.int .i64 n) ∧ TwoP base W' p x s t' ex ∧ KX base W ex W') := by
  obtain ⟨F, G, h1, h2, h3, h4, h5⟩ := h
  refine (hc G h2).mono ?_
  rintro e W' ⟨rfl, ht, hk⟩
  obtain ⟨g1, hkx⟩ := TwoP.snd hx hbs h1 h3 h4 h5 ht hk
  exact ⟨rfl, g1, hkx⟩
end Go.Proofs.Ytilogpjbdemceaa.Oct
