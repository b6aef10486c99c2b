
import Derived.Test.YtobljkhidgbeoaaZ02
/- PARTS OF MEMORY, each in blocks of its own. -/
namespace Go.Proofs.Ytobljkhidgbeoaa.Oct
open Go.RowKit Go.Proofs.YtobljkhidgbeoaaW.PrintWords Go.Proofs.Ytobljkhidgbeoaa.M
set_option linter.unusedVariables false
set_option linter.unusedSimpArgs false
/-- only blocks that F lets may have changed -/
structure Kp (W : World) (F : Nat → Prop) (W' : World) : Prop where
  os : W'.os = W.os
  tape : W'.tape = W.tape
  output : W'.output = W.output
  size : W.heap.size ≤ W'.heap.size
  block : ∀ k, k < W.heap.size → ¬ F k → W'.heap[k]? = W.heap[k]?
theorem Kp.refl (W : World) (F : Nat → Prop) : Kp W F W := ⟨rfl, rfl, rfl, Nat.le_refl _, fun _ _ _ => rfl⟩
theorem Kp.of_below {W W' : World} (F : Nat → Prop) (h : Below W.heap.size W W') : Kp W F W' := ⟨h.os, h.tape, h.output, h.size, fun k hk _ => h.block k hk⟩
theorem Kp.of_grown {W W' : World} {F : Nat → Prop} {row : Option Nat} (h : W.grownBy W' row) (hp : ∀ k, row = some k → F k) : Kp W F W' := ⟨h.os, h.tape, h.output, h.size, fun k hk hf => h.block k hk (fun e => hf (hp k e.symm))⟩
theorem Kp.trans {W W1 W2 : World} {F G : Nat → Prop} (h : Kp W F W1) (h2 : Kp W1 G W2) (hG : ∀ k, k < W.heap.size → G k → F k) : Kp W F W2 :=
  ⟨h2.os.trans h.os, h2.tape.trans h.tape, h2.output.trans h.output, Nat.le_trans h.size h2.size, fun k hk hf => (h2.block k (Nat.lt_of_lt_of_le hk h.size) (fun hg => hf (hG k hk hg))).trans (h.block k hk hf)⟩
theorem Kp.mono {W W1 : World} {F G : Nat → Prop} (h : Kp W F W1) (hG : ∀ k, k < W.heap.size → F k → G k) : Kp W G W1 :=
  ⟨h.os, h.tape, h.output, h.size, fun k hk hf => h.block k hk (fun hg => hf (hG k hk hg))⟩
theorem Kp.below {W W' : World} {F : Nat → Prop} (h : Kp W F W') (hF : ∀ k, ¬ F k) : Below W.heap.size W W' := ⟨h.os, h.tape, h.output, h.size, fun k hk => h.block k hk (hF k)⟩
theorem below_kp {base : Nat} {W0 W W' : World} {F : Nat → Prop} (h0 : Below base W0 W) (h : Kp W F W') (hs : base ≤ W.heap.size) (hF : ∀ k, F k → base ≤ k) : Below base W0 W' :=
  h0.trans ⟨h.os, h.tape, h.output, h.size, fun k hk => h.block k (by omega) (fun hf => by have := hF k hf; omega)⟩
/-- a part of memory: what it says, of which blocks -/
structure Part where
  P : World → (Nat → Prop) → Prop
  mv : ∀ {W W' : World} {F F' : Nat → Prop}, P W F → W.heap.size ≤ W'.heap.size → (∀ k, F k → k < W.heap.size → W'.heap[k]? = W.heap[k]? ∧ F' k) → P W' F'
theorem Part.mono {A : Part} {W : World} {F F' : Nat → Prop} (h : A.P W F) (hf : ∀ k, F k → k < W.heap.size → F' k) : A.P W F' := A.mv h (Nat.le_refl _) (fun k hk hl => ⟨rfl, hf k hk hl⟩)
theorem Part.kp {A : Part} {W W' : World} {F G : Nat → Prop} (h : A.P W F) (hk : Kp W G W') (hd : ∀ k, F k → k < W.heap.size → ¬ G k) : A.P W' F := A.mv h hk.size (fun k h1 h2 => ⟨hk.block k h2 (hd k h1 h2), h1⟩)
def emp : Part := ⟨fun _ _ => True, fun _ _ _ => trivial⟩
/-- parts, none of which shares a block with another one -/
def Sep (l : List Part) (W : World) (F : Nat → Prop) : Prop := ∃ o : Nat → Nat, ∀ (i : Nat) (A : Part), l[i]? = some A → A.P W (fun k => F k ∧ o k = i)
theorem Sep.mv {l : List Part} {W W' : World} {F F' : Nat → Prop} (h : Sep l W F) (hs : W.heap.size ≤ W'.heap.size) (hb : ∀ k, F k → k < W.heap.size → W'.heap[k]? = W.heap[k]? ∧ F' k) : Sep l W' F' := by
  obtain ⟨o, h⟩ := h
  exact ⟨o, fun i A hi => A.mv (h i A hi) hs (fun k hk hl => ⟨(hb k hk.1 hl).1, (hb k hk.1 hl).2, hk.2⟩)⟩
def sepP (l : List Part) : Part := ⟨Sep l, Sep.mv⟩
theorem Sep.mono {l : List Part} {W : World} {F F' : Nat → Prop} (h : Sep l W F) (hf : ∀ k, F k → k < W.heap.size → F' k) : Sep l W F' := h.mv (Nat.le_refl _) (fun k hk hl => ⟨rfl, hf k hk hl⟩)
theorem Sep.nil (W : World) (F : Nat → Prop) : Sep [] W F := ⟨fun _ => 0, fun i A hi => by simp at hi⟩
theorem Sep.split {l1 l2 : List Part} {W : World} {F : Nat → Prop} (h : Sep (l1 ++ l2) W F) :
    ∃ F1 F2 : Nat → Prop, (∀ k, F1 k → ¬ F2 k) ∧ (∀ k, F1 k → F k ∧ k < W.heap.size) ∧ (∀ k, F2 k → F k ∧ k < W.heap.size) ∧ Sep l1 W F1 ∧ Sep l2 W F2 := by
  obtain ⟨o, h⟩ := h
  refine ⟨fun k => F k ∧ k < W.heap.size ∧ o k < l1.length, fun k => F k ∧ k < W.heap.size ∧ l1.length ≤ o k, fun k h1 h2 => by omega, fun k h => ⟨h.1, h.2.1⟩, fun k h => ⟨h.1, h.2.1⟩, ⟨o, fun i A hi => ?_⟩, ⟨fun k => o k - l1.length, fun i A hi => ?_⟩⟩
  · have hl := (List.getElem?_eq_some_iff.1 hi).1
    exact Part.mono (h i A (by rw [List.getElem?_append_left hl]; exact hi)) (fun k hk hb => ⟨⟨hk.1, hb, by omega⟩, hk.2⟩)
  · exact Part.mono (h (l1.length + i) A (by rw [List.getElem?_append_right (by omega)]; simpa using hi)) (fun k hk hb => ⟨⟨hk.1, hb, by omega⟩, by show o k - l1.length = i; omega⟩)
theorem Sep.join {l1 l2 : List Part} {W : World} {F F1 F2 : Nat → Prop} (h1 : Sep l1 W F1) (h2 : Sep l2 W F2) (hd : ∀ k, k < W.heap.size → F1 k → ¬ F2 k) (e1 : ∀ k, k < W.heap.size → F1 k → F k) (e2 : ∀ k, k < W.heap.size → F2 k → F k) : Sep (l1 ++ l2) W F := by
  obtain ⟨o1, h1⟩ := h1
  obtain ⟨o2, h2⟩ := h2
  open Classical in
  refine ⟨fun k => if F1 k then o1 k else l1.length + o2 k, fun i A hi => ?_⟩
  rcases Nat.lt_or_ge i l1.length with h | h
  · rw [List.getElem?_append_left h] at hi
    exact Part.mono (h1 i A hi) (fun k hk hb => ⟨e1 k hb hk.1, by show (if F1 k then o1 k else l1.length + o2 k) = i; rw [if_pos hk.1]; exact hk.2⟩)
  · rw [List.getElem?_append_right h] at hi
    exact Part.mono (h2 _ A hi) (fun k hk hb => ⟨e2 k hb hk.1, by show (if F1 k then o1 k else l1.length + o2 k) = i; rw [if_neg (fun h => hd k hb h hk.1), hk.2]; omega⟩)
/-- parts in another order, some left out -/
theorem Sep.pick {l : List Part} {W : World} {F : Nat → Prop} (h : Sep l W F) (σ : List Nat) (hn : σ.Nodup) : Sep (σ.map (fun i => l.getD i emp)) W F := by
  obtain ⟨o, h⟩ := h
  refine ⟨fun k => σ.idxOf (o k), fun j A hj => ?_⟩
  rw [List.getElem?_map] at hj
  cases hs : σ[j]? with
  | none => rw [hs] at hj; cases hj
  | some i =>
    rw [hs] at hj
    obtain rfl : l.getD i emp = A := by simpa using hj
    cases hi : l[i]? with
    | none => rw [List.getD_eq_getElem?_getD, hi]; trivial
    | some B =>
      rw [List.getD_eq_getElem?_getD, hi]
      obtain ⟨hjl, hje⟩ := List.getElem?_eq_some_iff.1 hs
      exact Part.mono (h i B hi) (fun k hk hb => ⟨hk.1, by show σ.idxOf (o k) = j; rw [hk.2, ← hje]; exact hn.idxOf_getElem j hjl⟩)
theorem Sep.one {A : Part} {W : World} {F : Nat → Prop} (h : Sep [A] W F) : A.P W F := by
  obtain ⟨o, h⟩ := h
  exact Part.mono (h 0 A rfl) (fun k hk _ => hk.1)
theorem Sep.of_one {A : Part} {W : World} {F : Nat → Prop} (h : A.P W F) : Sep [A] W F := ⟨fun _ => 0, fun i B hi => by
  have : i = 0 := by have := (List.getElem?_eq_some_iff.1 hi).1; simpa using this
  subst this
  obtain rfl : A = B := by simpa using hi
  exact Part.mono h (fun k hk _ => ⟨hk, rfl⟩)⟩
theorem Sep.head {A : Part} {l : List Part} {W : World} {F : Nat → Prop} (h : Sep (A :: l) W F) : A.P W F := by
  obtain ⟨o, h⟩ := h
  exact Part.mono (h 0 A rfl) (fun k hk _ => hk.1)
theorem Sep.at {l : List Part} {W : World} {F : Nat → Prop} (h : Sep l W F) {i : Nat} {A : Part} (hi : l[i]? = some A) : A.P W F := by
  obtain ⟨o, h⟩ := h
  exact Part.mono (h i A hi) (fun k hk _ => hk.1)
/-- two parts differ in their blocks -/
theorem Sep.two {l : List Part} {W : World} {F : Nat → Prop} (h : Sep l W F) {i j : Nat} {A B : Part} (hi : l[i]? = some A) (hj : l[j]? = some B) (hij : i ≠ j) : ∃ F1 F2 : Nat → Prop, (∀ k, F1 k → ¬ F2 k) ∧ A.P W F1 ∧ B.P W F2 := by
  obtain ⟨o, h⟩ := h
  exact ⟨_, _, fun k h1 h2 => by have := h1.2; have := h2.2; omega, h i A hi, h j B hj⟩
/-- a part replaced by what it holds -/
theorem Sep.imp {A B : Part} {l : List Part} {W : World} {F : Nat → Prop} (h : Sep (A :: l) W F) (hab : ∀ G, A.P W G → B.P W G) : Sep (B :: l) W F := by
  obtain ⟨o, h⟩ := h
  refine ⟨o, fun i C hi => ?_⟩
  match i, hi with
  | 0, hi =>
    obtain rfl : B = C := by simpa using hi
    exact hab _ (h 0 A rfl)
  | i + 1, hi => exact h (i + 1) C hi
theorem Sep.flat {l1 l2 : List Part} {W : World} {F : Nat → Prop} (h : Sep (sepP l1 :: l2) W F) : Sep (l1 ++ l2) W F := by
  obtain ⟨F1, F2, hd, e1, e2, h1, h2⟩ := Sep.split (l1 := [sepP l1]) h
  exact Sep.join h1.one h2 (fun k _ => hd k) (fun k _ hk => (e1 k hk).1) (fun k _ hk => (e2 k hk).1)
theorem Sep.nest {l1 l2 : List Part} {W : World} {F : Nat → Prop} (h : Sep (l1 ++ l2) W F) : Sep (sepP l1 :: l2) W F := by
  obtain ⟨F1, F2, hd, e1, e2, h1, h2⟩ := Sep.split h
  exact Sep.join (l1 := [sepP l1]) (Sep.of_one h1) h2 (fun k _ => hd k) (fun k _ hk => (e1 k hk).1) (fun k _ hk => (e2 k hk).1)
def exP {α : Type} (f : α → Part) : Part := ⟨fun W F => ∃ x, (f x).P W F, fun ⟨x, h⟩ hs hb => ⟨x, (f x).mv h hs hb⟩⟩
theorem Sep.ex {α : Type} {f : α → Part} {l : List Part} {W : World} {F : Nat → Prop} (h : Sep (exP f :: l) W F) : ∃ x, Sep (f x :: l) W F := by
  obtain ⟨o, h⟩ := h
  obtain ⟨x, hx⟩ := h 0 _ rfl
  refine ⟨x, o, fun i C hi => ?_⟩
  match i, hi with
  | 0, hi =>
    obtain rfl : f x = C := by simpa using hi
    exact hx
  | i + 1, hi => exact h (i + 1) C hi
theorem Sep.of_ex {α : Type} {f : α → Part} {l : List Part} {W : World} {F : Nat → Prop} (x : α) (h : Sep (f x :: l) W F) : Sep (exP f :: l) W F := h.imp (fun G hg => ⟨x, hg⟩)
/-- what holds of no memory -/
def isP (p : Prop) : Part := ⟨fun _ _ => p, fun h _ _ => h⟩
theorem Sep.is {p : Prop} {l : List Part} {W : World} {F : Nat → Prop} (h : Sep (isP p :: l) W F) : p := h.head
theorem Sep.tail {A : Part} {l : List Part} {W : World} {F : Nat → Prop} (h : Sep (A :: l) W F) : Sep l W F := by
  obtain ⟨F1, F2, _, _, e2, _, h2⟩ := Sep.split (l1 := [A]) h
  exact h2.mono (fun k hk _ => (e2 k hk).1)
theorem Sep.of_is {p : Prop} {l : List Part} {W : World} {F : Nat → Prop} (hp : p) (h : Sep l W F) : Sep (isP p :: l) W F :=
  Sep.join (l1 := [isP p]) (F1 := fun _ => False) (Sep.of_one hp) h (fun k _ hk => hk.elim) (fun k _ hk => hk.elim) (fun k _ hk => hk)
/-- one block, just this -/
def pt (b : Nat) (o : Obj) : Part := ⟨fun W F => F b ∧ W.heap[b]? = some o, fun ⟨h1, h2⟩ _ hb => ⟨(hb _ h1 (Array.getElem?_eq_some_iff.1 h2).1).2, ((hb _ h1 (Array.getElem?_eq_some_iff.1 h2).1).1).trans h2⟩⟩
/-- a slice of the call's own -/
def row (e : TypeId) (size : Nat) (v : Value) (n : Nat) (vs : List Value) : Part := ⟨fun W F => OwnAt W 0 e size v n vs ∧ ∀ k, v.ownBlock = some k → F k, fun ⟨h1, h2⟩ _ hb =>
  ⟨h1.move (fun k hk => (hb k (h2 k hk) (h1.block hk).2).1), fun k hk => (hb k (h2 k hk) (h1.block hk).2).2⟩⟩
theorem Sep.heap {b : Nat} {o : Obj} {l : List Part} {W : World} {F : Nat → Prop} (h : Sep (pt b o :: l) W F) : W.heap[b]? = some o ∧ F b := ⟨h.head.2, h.head.1⟩
theorem Sep.put {b : Nat} {o o' : Obj} {l : List Part} {W W' : World} {F : Nat → Prop} (h : Sep (pt b o :: l) W F) (hs : W.heap.size ≤ W'.heap.size) (hb : W'.heap[b]? = some o') (hk : ∀ k, k ≠ b → k < W.heap.size → W'.heap[k]? = W.heap[k]?) : Sep (pt b o' :: l) W' F := by
  obtain ⟨F1, F2, hd, e1, e2, h1, h2⟩ := Sep.split (l1 := [pt b o]) h
  obtain ⟨h3, h4⟩ := h1.one
  exact Sep.join (l1 := [pt b o']) (F1 := F1) (Sep.of_one ⟨h3, hb⟩) (h2.mv hs (F' := F2) (fun k hk' hl => ⟨hk k (fun e => hd k (by rw [e]; exact h3) hk') hl, hk'⟩)) (fun k _ => hd k) (fun k _ hk => (e1 k hk).1) (fun k _ hk => (e2 k hk).1)

/-! where a call stands -/
def St (w : World) (F : Nat → Prop) (W : World) (l : List Part) : Prop := Sep l W (New w F) ∧ Kp w F W
theorem St.start {w : World} {F : Nat → Prop} {l : List Part} (h : Sep l w F) : St w F w l := ⟨h.mono (fun k hk _ => .inl hk), Kp.refl _ _⟩
theorem St.pick {w W : World} {F : Nat → Prop} {l : List Part} (h : St w F W l) (σ : List Nat) (hn : σ.Nodup) : St w F W (σ.map (fun i => l.getD i emp)) := ⟨h.1.pick σ hn, h.2⟩
theorem St.of {w W : World} {F : Nat → Prop} {l l' : List Part} (h : St w F W l) (hl : Sep l W (New w F) → Sep l' W (New w F)) : St w F W l' := ⟨hl h.1, h.2⟩
theorem St.alloc {w W : World} {F : Nat → Prop} {l : List Part} (h : St w F W l) (o : Obj) : St w F (W.alloc o) (pt W.heap.size o :: l) := by
  refine ⟨Sep.join (l1 := [pt W.heap.size o]) (F1 := fun k => k = W.heap.size) (F2 := fun k => New w F k ∧ k < W.heap.size) (Sep.of_one ⟨rfl, heap_alloc_new W o⟩) (h.1.mv (by simp) (fun k hk hl => ⟨heap_alloc_old W o hl, hk, hl⟩)) (fun k _ h1 h2 => by omega) (fun k _ hk => ?_) (fun k _ hk => hk.1), h.2.trans (Kp.of_below (fun _ => False) (below_alloc (Below.refl _ _) o)) (fun k _ hk => hk.elim)⟩
  subst hk
  exact .inr h.2.size
theorem St.drew {w W : World} {F : Nat → Prop} {l : List Part} (h : St w F W l) : St w F W.drew l :=
  ⟨h.1.mv (Nat.le_refl _) (fun k hk _ => ⟨rfl, hk⟩), h.2.trans (Kp.of_below (fun _ => False) (below_drew (Below.refl _ _))) (fun k _ hk => hk.elim)⟩
theorem St.drewN {w W : World} {F : Nat → Prop} {l : List Part} (h : St w F W l) (n : Nat) : St w F (W.drewN n) l :=
  ⟨h.1.mv (Nat.le_refl _) (fun k hk _ => ⟨rfl, hk⟩), h.2.trans (Kp.of_below (fun _ => False) ⟨rfl, rfl, rfl, Nat.le_refl _, fun _ _ => rfl⟩) (fun k _ hk => hk.elim)⟩
theorem St.below {w W W' : World} {F : Nat → Prop} {l : List Part} (h : St w F W l) (hb : Below W.heap.size W W') : St w F W' l :=
  ⟨h.1.mv hb.size (fun k hk hl => ⟨hb.block k hl, hk⟩), h.2.trans (Kp.of_below (fun _ => False) hb) (fun k _ hk => hk.elim)⟩
theorem St.heap {w W : World} {F : Nat → Prop} {b : Nat} {o : Obj} {l : List Part} (h : St w F W (pt b o :: l)) : W.heap[b]? = some o := h.1.heap.1
theorem St.set {w W : World} {F : Nat → Prop} {b : Nat} {cs : Array Value} {t : TypeId} {l : List Part} (h : St w F W (pt b (.cells cs t (0, 0)) :: l)) (i : Nat) (v : Value) : St w F (W.setCell ⟨b, i, none⟩ v) (pt b (.cells (cs.setIfInBounds i v) t (0, 0)) :: l) := by
  have hh := h.1.heap
  refine ⟨h.1.put (by simp [World.setCell]) (heap_set v hh.1) (fun k hk _ => Below.heap_setCell _ _ _ _ hk), ⟨h.2.os, h.2.tape, h.2.output, Nat.le_trans h.2.size (by simp [World.setCell]), fun k hk hf => ?_⟩⟩
  rw [Below.heap_setCell _ _ _ _ (fun e => ?_)]
  · exact h.2.block k hk hf
  · rcases hh.2 with h' | h'
    · exact hf (by rw [e]; exact h')
    · have h' : w.heap.size ≤ b := h'; have e : k = b := e; omega
/-- the parts that a call takes change, the others do not -/
def Ret (W : World) (F : Nat → Prop) (R : Ending → List Part → Prop) (e : Ending) (W' : World) : Prop := ∃ l', R e l' ∧ Sep l' W' (New W F) ∧ Kp W F W'
theorem St.part {w W : World} {F : Nat → Prop} {l1 l2 : List Part} (h : St w F W (l1 ++ l2)) :
    ∃ F1 : Nat → Prop, Sep l1 W F1 ∧ (∀ k, F1 k → k < W.heap.size) ∧ (∀ W', Kp W F1 W' → St w F W' l2) ∧ ∀ l' W', Sep l' W' (New W F1) → Kp W F1 W' → St w F W' (l' ++ l2) := by
  obtain ⟨h, hk⟩ := h
  obtain ⟨F1, F2, hd, e1, e2, h1, h2⟩ := h.split
  have hG : ∀ k, k < w.heap.size → F1 k → F k := fun k hl hf => by
    rcases (e1 k hf).1 with h' | h'
    · exact h'
    · have h' : w.heap.size ≤ k := h'; omega
  refine ⟨F1, h1, fun k hf => (e1 k hf).2, fun W' hk' => ⟨h2.mv hk'.size (fun k hf hl => ⟨hk'.block k hl (fun h => hd k h hf), (e2 k hf).1⟩), hk.trans hk' hG⟩, fun l' W' hl' hk' => ⟨Sep.join hl' (h2.mv hk'.size (F' := F2) (fun k hf hl => ⟨hk'.block k hl (fun h => hd k h hf), hf⟩)) ?_ ?_ (fun k _ hf => (e2 k hf).1), hk.trans hk' hG⟩⟩
  · intro k _ hn hf
    rcases hn with h' | h'
    · exact hd k h' hf
    · have h' : W.heap.size ≤ k := h'
      have := (e2 k hf).2
      omega
  · intro k _ hn
    rcases hn with h' | h'
    · exact (e1 k h').1
    · exact .inr (Nat.le_trans hk.size h')
theorem St.call {P : Program} {f : Nat} {args : Array Value} {w W : World} {F : Nat → Prop} {l1 l2 : List Part} {R : Ending → List Part → Prop} (h : St w F W (l1 ++ l2)) (hc : ∀ F1, Sep l1 W F1 → Calls P f args W (Ret W F1 R)) :
    Calls P f args W (fun e W' => ∃ l', R e l' ∧ St w F W' (l' ++ l2)) := by
  obtain ⟨F1, h1, _, _, h3⟩ := h.part
  refine (hc F1 h1).mono ?_
  rintro e W' ⟨l', hr, hs, hk⟩
  exact ⟨l', hr, h3 l' W' hs hk⟩
/-- .. a call that reads, besides, what lies in the other parts, or in what came in -/
theorem St.call_rd {P : Program} {f : Nat} {args : Array Value} {w W : World} {F : Nat → Prop} {l1 l2 : List Part} {R : Ending → List Part → Prop} (H : World → Prop) (h : St w F W (l1 ++ l2)) (hH : ∀ W', St w F W' l2 → H W') (hc : ∀ F1, Sep l1 W F1 → (∀ W', Kp W F1 W' → H W') → Calls P f args W (Ret W F1 R)) :
    Calls P f args W (fun e W' => ∃ l', R e l' ∧ St w F W' (l' ++ l2)) := by
  obtain ⟨F1, h1, _, h2, h3⟩ := h.part
  refine (hc F1 h1 (fun W' hk => hH W' (h2 W' hk))).mono ?_
  rintro e W' ⟨l', hr, hs, hk⟩
  exact ⟨l', hr, h3 l' W' hs hk⟩
theorem St.ret {w W : World} {F : Nat → Prop} {l : List Part} {R : Ending → List Part → Prop} {e : Ending} (h : St w F W l) (hr : R e l) : Ret w F R e W := ⟨l, hr, h.1, h.2⟩
/-- an append to a slice of the call's own -/
theorem St.grown {w W W' : World} {F : Nat → Prop} {e : TypeId} {size n n' : Nat} {v v' : Value} {vs vs' : List Value} {l : List Part} (h : St w F W (row e size v n vs :: l)) (hr : OwnAt W' 0 e size v' n' vs') (hg : W.grownBy W' v.ownBlock) (hb : v'.ownBlock = v.ownBlock ∨ ∃ b, v'.ownBlock = some b ∧ W.heap.size ≤ b) : St w F W' (row e size v' n' vs' :: l) := by
  obtain ⟨F1, h1, _, _, h3⟩ := St.part (l1 := [row e size v n vs]) h
  obtain ⟨h4, h5⟩ := h1.one
  refine h3 [row e size v' n' vs'] W' (Sep.of_one ⟨hr, fun k hk => ?_⟩) (Kp.of_grown hg h5)
  rcases hb with hb | ⟨b, hb, hl⟩
  · exact .inl (h5 k (by rw [← hb]; exact hk))
  · rw [hb] at hk
    injection hk with hk
    subst hk
    exact .inr hl
end Go.Proofs.Ytobljkhidgbeoaa.Oct
