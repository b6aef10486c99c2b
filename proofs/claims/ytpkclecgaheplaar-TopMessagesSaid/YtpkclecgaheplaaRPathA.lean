import Derived.Test.YtpkclecgaheplaaRPathM
import Derived.Test.YtpkclecgaheplaaROwn
import Derived.Test.YtpkclecgaheplaaRCall
import Derived.Test.YtpkclecgaheplaaRFClone
import Derived.Deep.RegionHeldLaw
import Derived.Deep.DrawnRows
namespace Go.Proofs.YtpkclecgaheplaaR.Oct
open Go.RowKit Go.Proofs.YtpkclecgaheplaaRW.PrintWords Go.Proofs.YtpkclecgaheplaaR.M
set_option linter.unusedVariables false
set_option linter.unusedSimpArgs false
/-- only blocks that F lets may have changed -/
structure Kept (W : World) (F : Nat → Prop) (W' : World) : Prop where
  os : W'.os = W.os
  tape : W'.tape = W.tape
  output : W'.output = W.output
  size : W.heap.size ≤ W'.heap.size
  block : ∀ k, k < W.heap.size → ¬ F k → W'.heap[k]? = W.heap[k]?
theorem grown_set (W : World) (p j : Nat) (v : Value) : W.grownBy (W.setCell ⟨p, j, none⟩ v) (some p) := ⟨rfl, rfl, rfl, by simp [World.setCell], fun k hk hne => Below.heap_setCell W ⟨p, j, none⟩ v k (fun e => hne (by rw [e]))⟩
theorem Kept.refl (W : World) (F : Nat → Prop) : Kept W F W := ⟨rfl, rfl, rfl, Nat.le_refl _, fun _ _ _ => rfl⟩
theorem Kept.of_below {W W' : World} (F : Nat → Prop) (h : Below W.heap.size W W') : Kept W F W' := by
  have g := grown_of_below h none
  exact ⟨g.os, g.tape, g.output, g.size, fun k hk _ => h.block k hk⟩
theorem Kept.of_grown {W W' : World} {F : Nat → Prop} {row : Option Nat} (h : W.grownBy W' row) (hp : ∀ k, row = some k → F k) : Kept W F W' := ⟨h.os, h.tape, h.output, h.size, fun k hk hf => h.block k hk (fun e => hf (hp k e.symm))⟩
theorem Kept.trans {W W1 W2 : World} {F G : Nat → Prop} (h : Kept W F W1) (h2 : Kept W1 G W2) (hG : ∀ k, k < W.heap.size → G k → F k) : Kept W F W2 :=
  ⟨h2.os.trans h.os, h2.tape.trans h.tape, h2.output.trans h.output, Nat.le_trans h.size h2.size, fun k hk hf => (h2.block k (Nat.lt_of_lt_of_le hk h.size) (fun hg => hf (hG k hk hg))).trans (h.block k hk hf)⟩
theorem below_kept {base : Nat} {W0 W W' : World} {F : Nat → Prop} (h0 : Below base W0 W) (h : Kept W F W') (hs : base ≤ W.heap.size) (hF : ∀ k, F k → base ≤ k) : Below base W0 W' :=
  h0.trans ⟨h.os, h.tape, h.output, h.size, fun k hk => h.block k (by omega) (fun hf => by have := hF k hf; omega)⟩
theorem below_draws (W : World) (n : Nat) : Below W.heap.size W (W.drewN n) := pw_below_drewN (Below.refl _ _) n
theorem OwnAt.type {W : World} {base : Nat} {e : TypeId} {size : Nat} {v : Value} {n : Nat} {xs : List Value} (h : OwnAt W base e size v n xs) {k : Nat} (hk : v.ownBlock = some k) : ∃ cur, W.heap[k]? = some (.cells cur e (0, 0)) := by
  rcases h.2 with ⟨rfl, _⟩ | ⟨g, off, cap, cur, rfl, _, hh, _⟩
  · cases hk
  · injection hk with hk
    dsimp only at hk
    subst hk
    exact ⟨cur, hh⟩
theorem OwnAt.ne {W : World} {base : Nat} {e t : TypeId} {size : Nat} {v : Value} {n : Nat} {xs : List Value} (h : OwnAt W base e size v n xs) {k p : Nat} (hk : v.ownBlock = some k) {cs : Array Value} {fr : Nat × Nat} (hp : W.heap[p]? = some (.cells cs t fr)) (hne : e ≠ t) : k ≠ p := by
  rintro rfl
  obtain ⟨cur, hc⟩ := h.type hk
  rw [hc] at hp
  injection hp with hp
  injection hp with _ hp
  exact hne hp
theorem info_row : (Try.prog.info? 28).map (fun i => (i.zero, i.size, i.bytes)) = some (some (.slice none 0 0), 1, 24) := by kernel_rfl
theorem one_cell {W : World} {b : Nat} {x : Value} {t : TypeId} (h : W.heap[b]? = some (.cells #[x] t (0, 0))) : W.cell? ⟨b, 0, none⟩ = some x ∧ W.frozen? ⟨b, 0, none⟩ = false := by
  refine ⟨?_, ?_⟩ <;> simp [World.cell?, World.frozen?, h]
/-- texts of one's own, each in a block of its own -/
structure Els (W : World) (vs : List Value) (bag : Bag) : Prop where
  len : vs.length = bag.length
  own : ∀ (j : Nat) (u : Value) (l : List Int), vs[j]? = some u → bag[j]? = some l → QB W 0 u l
  apart : vs.Pairwise (fun a b => ∀ k, a.ownBlock = some k → b.ownBlock ≠ some k)
theorem Els.mem {W : World} {vs : List Value} {bag : Bag} (h : Els W vs bag) {u : Value} (hu : u ∈ vs) : ∃ l, QB W 0 u l := by
  obtain ⟨j, hj, rfl⟩ := List.getElem_of_mem hu
  exact ⟨_, h.own j _ _ (List.getElem?_eq_getElem hj) (List.getElem?_eq_getElem (by rw [← h.len]; exact hj))⟩
theorem Els.move {W W' : World} {vs : List Value} {bag : Bag} (h : Els W vs bag) (hb : ∀ u ∈ vs, ∀ k, u.ownBlock = some k → W'.heap[k]? = W.heap[k]?) : Els W' vs bag :=
  ⟨h.len, fun j u l hu hl => (h.own j u l hu hl).move (hb u (List.mem_of_getElem? hu)), h.apart⟩
theorem Els.snoc {W : World} {vs : List Value} {bag : Bag} (h : Els W vs bag) {u : Value} {l : List Int} (hu : QB W 0 u l) (ha : ∀ k, u.ownBlock = some k → ∀ x ∈ vs, x.ownBlock ≠ some k) : Els W (vs ++ [u]) (bag ++ [l]) := by
  refine ⟨by simp [h.len], fun j u' l' hu' hl' => ?_, ?_⟩
  · rcases Nat.lt_or_ge j vs.length with hj | hj
    · rw [List.getElem?_append_left hj] at hu'
      rw [List.getElem?_append_left (by rw [← h.len]; exact hj)] at hl'
      exact h.own j u' l' hu' hl'
    · rw [List.getElem?_append_right hj] at hu'
      rw [List.getElem?_append_right (by rw [← h.len]; exact hj)] at hl'
      have hj0 : j - vs.length = 0 := by have := (List.getElem?_eq_some_iff.1 hu').1; simp at this; omega
      rw [hj0] at hu'
      rw [← h.len, hj0] at hl'
      obtain rfl : u' = u := by simpa using hu'.symm
      obtain rfl : l' = l := by simpa using hl'.symm
      exact hu
  · rw [List.pairwise_append]
    refine ⟨h.apart, by simp, fun a hb b hb' k hk => ?_⟩
    obtain rfl : b = u := by simpa using hb'
    intro e
    exact ha k e a hb hk
def PathAt (W : World) (p : Nat) (bag : Bag) (F : Nat → Prop) : Prop :=
  ∃ v vs, W.heap[p]? = some (.cells #[v] 53 (0, 0)) ∧ OwnAt W 0 28 1 v bag.length vs ∧ Els W vs bag ∧ F p ∧ (∀ k, v.ownBlock = some k → F k) ∧ (∀ u ∈ vs, ∀ k, u.ownBlock = some k → F k) ∧ bag.ok
theorem PathAt.step {W W' : World} {p : Nat} {bag : Bag} {F : Nat → Prop} (h : PathAt W p bag F) (hb : ∀ k, F k → k < W.heap.size → W'.heap[k]? = W.heap[k]?) : PathAt W' p bag F := by
  obtain ⟨v, vs, hh, ho, he, hp, hk, hu, hok⟩ := h
  refine ⟨v, vs, (hb p hp (Array.getElem?_eq_some_iff.1 hh).1).trans hh, ho.move (fun k e => hb k (hk k e) (ho.block e).2), he.move (fun u hm k e => ?_), hp, hk, hu, hok⟩
  obtain ⟨l, hq⟩ := he.mem hm
  exact hb k (hu u hm k e) (hq.block e).2
theorem PathAt.below {W W' : World} {p : Nat} {bag : Bag} {F : Nat → Prop} (h : PathAt W p bag F) (hb : Below W.heap.size W W') : PathAt W' p bag F := h.step (fun k _ hk => hb.block k hk)
theorem PathAt.mono {W : World} {p : Nat} {bag : Bag} {F G : Nat → Prop} (h : PathAt W p bag F) (hg : ∀ k, F k → k < W.heap.size → G k) : PathAt W p bag G := by
  obtain ⟨v, vs, hh, ho, he, hp, hk, hu, hok⟩ := h
  refine ⟨v, vs, hh, ho, he, hg p hp (Array.getElem?_eq_some_iff.1 hh).1, fun k e => hg k (hk k e) (ho.block e).2, fun u hm k e => ?_, hok⟩
  obtain ⟨l, hq⟩ := he.mem hm
  exact hg k (hu u hm k e) (hq.block e).2
theorem PathAt.is {W : World} {p : Nat} {bag : Bag} {F : Nat → Prop} (h : PathAt W p bag F) : p < W.heap.size ∧ F p ∧ bag.ok := by
  obtain ⟨v, vs, hh, _, _, hp, _, _, hok⟩ := h
  exact ⟨(Array.getElem?_eq_some_iff.1 hh).1, hp, hok⟩
def RetP (W : World) (p : Nat) (F : Nat → Prop) (bag : Bag) (n : Int) (e : Ending) (W' : World) : Prop := e = .returned (.int .i64 n) ∧ PathAt W' p bag (New W F) ∧ Kept W F W'
theorem retp_same {w w' : World} {p : Nat} {F : Nat → Prop} {bag : Bag} {n : Int} (h : PathAt w p bag F) (hb : Below w.heap.size w w') : RetP w p F bag n (.returned (.int .i64 n)) w' :=
  ⟨rfl, (h.below hb).mono (fun k hk _ => .inl hk), Kept.of_below _ hb⟩
theorem pnew_at (w : World) : Calls Try.prog 5 #[] w fun e w' => e = .returned (.pointer (some ⟨w.heap.size, 0, none⟩)) ∧ PathAt w' w.heap.size [] (fun k => k = w.heap.size) ∧ Below w.heap.size w w' := by
  go_enter Try.func5, Try.ntmps5
  go_wp2
  go_ret
  exact ⟨rfl, ⟨_, [], heap_alloc_new w _, OwnAt.nil _ _ _ _, ⟨rfl, fun j u l h => by simp at h, List.Pairwise.nil⟩, rfl, fun k h => (nomatch h), fun u h => (nomatch h), Bag.ok_nil⟩, below_alloc (Below.refl _ _) _⟩
theorem there_nil (w : World) (i : Int) : Calls Try.prog 23 #[.pointer none, .int .i64 i] w fun e w' => e = .returned (.int .i64 6) ∧ w' = w := by
  go_enter Try.func23, Try.ntmps23
  go_wp2
  go_ret
  exact ⟨rfl, rfl⟩
theorem there_calls (w : World) (p : Nat) (bag : Bag) (F : Nat → Prop) (i : Int) (h : PathAt w p bag F) : Calls Try.prog 23 #[.pointer (some ⟨p, 0, none⟩), .int .i64 i] w fun e w' => e = .returned (.int .i64 (thereB bag i)) ∧ w' = w := by
  obtain ⟨v, vs, hh, ho, he, hp, hk, hu, hok⟩ := h
  obtain ⟨c0, f0⟩ := one_cell hh
  have hf : ∃ A c, v = .slice A bag.length c := by
    rcases ho.2 with ⟨rfl, h0⟩ | ⟨g, off, cap, cur, rfl, _⟩
    · exact ⟨none, 0, by rw [h0]⟩
    · exact ⟨_, _, rfl⟩
  obtain ⟨A, c, rfl⟩ := hf
  have hl : bag.length ≤ 256 := hok.1
  clear hh ho he hp hk hu hok
  rcases (show i < 0 ∨ 0 ≤ i by omega) with h1 | h1
  · have HV := Aside0.mk (there_no (b := bag) (.inl h1))
    go_enter Try.func23, Try.ntmps23
    go_wp2
    go_ret
    rw [HV.out]
    exact ⟨rfl, rfl⟩
  · have h1 : 0 ≤ i := h1
    rcases (show i < (bag.length : Int) ∨ (bag.length : Int) ≤ i by omega) with h2 | h2
    · have HV := Aside0.mk (there_yes (b := bag) (i := i) (by omega))
      go_enter Try.func23, Try.ntmps23
      go_wp2
      go_ret
      rw [HV.out]
      exact ⟨rfl, rfl⟩
    · have h2 : (bag.length : Int) ≤ i := h2
      have HV := Aside0.mk (there_no (b := bag) (i := i) (.inr h2))
      go_enter Try.func23, Try.ntmps23
      go_wp2
      go_ret
      rw [HV.out]
      exact ⟨rfl, rfl⟩
end Go.Proofs.YtpkclecgaheplaaR.Oct
