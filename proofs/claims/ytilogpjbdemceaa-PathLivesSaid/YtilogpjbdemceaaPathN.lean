import Derived.Test.YtilogpjbdemceaaPathF
import Derived.Test.YtilogpjbdemceaaFCopy
import Derived.StillTailTactics
/- The document's path in memory. -/
namespace Go.Proofs.Ytilogpjbdemceaa.Oct
open Go.RowKit Go.Proofs.YtilogpjbdemceaaW.PrintWords Go.Proofs.Ytilogpjbdemceaa.M
set_option linter.unusedVariables false
set_option linter.unusedSimpArgs false
def RPathAt (W : World) (p : Nat) (bag : Bag) (F : Nat → Prop) : Prop :=
  ∃ v vs, W.heap[p]? = some (.cells #[v] 49 (0, 0)) ∧ OwnAt W 0 26 1 v bag.length vs ∧ Els W vs bag ∧ F p ∧ (∀ k, v.ownBlock = some k → F k) ∧ (∀ u ∈ vs, ∀ k, u.ownBlock = some k → F k) ∧ bag.ok
theorem RPathAt.step {W W' : World} {p : Nat} {bag : Bag} {F : Nat → Prop} (h : RPathAt W p bag F) (hb : ∀ k, F k → k < W.heap.size → W'.heap[k]? = W.heap[k]?) : RPathAt W' p bag F := by
  obtain ⟨v, vs, hh, ho, he, hp, hk, hu, hok⟩ := h
  refine ⟨v, vs, (hb p hp (Array.getElem?_eq_some_iff.1 hh).1).trans hh, ho.move (fun k e => hb k (hk k e) (ho.block e).2), he.move (fun u hm k e => ?_), hp, hk, hu, hok⟩
  obtain ⟨l, hq⟩ := he.mem hm
  exact hb k (hu u hm k e) (hq.block e).2
theorem RPathAt.below {W W' : World} {p : Nat} {bag : Bag} {F : Nat → Prop} (h : RPathAt W p bag F) (hb : Below W.heap.size W W') : RPathAt W' p bag F := h.step (fun k _ hk => hb.block k hk)
theorem RPathAt.mono {W : World} {p : Nat} {bag : Bag} {F G : Nat → Prop} (h : RPathAt W p bag F) (hg : ∀ k, F k → k < W.heap.size → G k) : RPathAt W p bag G := by
  obtain ⟨v, vs, hh, ho, he, hp, hk, hu, hok⟩ := h
  refine ⟨v, vs, hh, ho, he, hg p hp (Array.getElem?_eq_some_iff.1 hh).1, fun k e => hg k (hk k e) (ho.block e).2, fun u hm k e => ?_, hok⟩
  obtain ⟨l, hq⟩ := he.mem hm
  exact hg k (hu u hm k e) (hq.block e).2
theorem RPathAt.is {W : World} {p : Nat} {bag : Bag} {F : Nat → Prop} (h : RPathAt W p bag F) : p < W.heap.size ∧ F p ∧ bag.ok := by
  obtain ⟨v, vs, hh, _, _, hp, _, _, hok⟩ := h
  exact ⟨(Array.getElem?_eq_some_iff.1 hh).1, hp, hok⟩
def RetRP (W : World) (p : Nat) (F : Nat → Prop) (bag : Bag) (n : Int) (e : Ending) (W' : World) : Prop := e = .returned (.int .i64 n) ∧ RPathAt W' p bag (New W F) ∧ Kept W F W'
theorem retrp_same {w w' : World} {p : Nat} {F : Nat → Prop} {bag : Bag} {n : Int} (h : RPathAt w p bag F) (hb : Below w.heap.size w w') : RetRP w p F bag n (.returned (.int .i64 n)) w' :=
  ⟨rfl, (h.below hb).mono (fun k hk _ => .inl hk), Kept.of_below _ hb⟩
theorem rpath_cell {w W w1 : World} {p n : Nat} {v : Value} {vs : List Value} (hh : w.heap[p]? = some (.cells #[v] 49 (0, 0))) (ho : OwnAt w 0 26 1 v n vs) (hb : Below w.heap.size w W) (hg : W.grownBy w1 v.ownBlock) : w1.heap[p]? = some (.cells #[v] 49 (0, 0)) := by
  have hpl := (Array.getElem?_eq_some_iff.1 hh).1
  exact (hg.block p (Nat.lt_of_lt_of_le hpl hb.size) (fun e => ho.ne e.symm hh (by decide) rfl)).trans ((hb.block p hpl).trans hh)
/-- what Send leaves behind its store -/
theorem rsend_close {w wc w1 : World} {p : Nat} {bag : Bag} {F : Nat → Prop} {v u v1 : Value} {vs : List Value} {ys : List Int} (hh : w.heap[p]? = some (.cells #[v] 49 (0, 0))) (ho : OwnAt w 0 26 1 v bag.length vs) (he : Els w vs bag) (hp : F p) (hk : ∀ k, v.ownBlock = some k → F k) (hu : ∀ u ∈ vs, ∀ k, u.ownBlock = some k → F k) (hok : Bag.ok (bag ++ [ys]))
    (hb : Below w.heap.size w wc) (hcu : OB wc w.heap.size u ys) (h1 : OwnAt w1 0 26 1 v1 (bag.length + 1) (vs ++ [u])) (hg : wc.grownBy w1 v.ownBlock) (hn : v1.ownBlock = v.ownBlock ∨ ∃ b, v1.ownBlock = some b ∧ wc.heap.size ≤ b) :
    RetRP w p F (bag ++ [ys]) 0 (.returned (.int .i64 0)) (w1.setCell ⟨p, 0, none⟩ v1) := by
  have hpl : p < w.heap.size := (Array.getElem?_eq_some_iff.1 hh).1
  have hhc := (hb.block p hpl).trans hh
  have hne : ∀ k, v.ownBlock = some k → k ≠ p := fun k e => ho.ne e hh (by decide)
  have hh1 : w1.heap[p]? = some (.cells #[v] 49 (0, 0)) := (hg.block p (Nat.lt_of_lt_of_le hpl hb.size) (fun e => hne p e.symm rfl)).trans hhc
  have hs := grown_set w1 p 0 v1
  have hgs : wc.heap.size ≤ (w1.setCell ⟨p, 0, none⟩ v1).heap.size := Nat.le_trans hg.size hs.size
  -- a text's block stays
  have hmv : ∀ x l, QB wc 0 x l → ∀ k, x.ownBlock = some k → (w1.setCell ⟨p, 0, none⟩ v1).heap[k]? = wc.heap[k]? := fun x l hq k e => by
    have hkl := (hq.block e).2
    have hkp : k ≠ p := OwnAt.ne hq e hhc (by decide)
    have hkv : some k ≠ v.ownBlock := fun e2 => by
      obtain ⟨cur, hc⟩ := (ho.move (fun k e => hb.block k (ho.block e).2)).type e2.symm
      obtain ⟨cur2, hc2⟩ := OwnAt.type hq e
      rw [hc] at hc2
      injection hc2 with hc2
      injection hc2 with _ hc2
      exact absurd hc2 (by decide)
    exact (hs.block k (Nat.lt_of_lt_of_le hkl hg.size) (fun e => hkp (by injection e))).trans (hg.block k hkl hkv)
  have hec : Els wc vs bag := he.move (fun x hx k e => by obtain ⟨l, hq⟩ := he.mem hx; exact hb.block k (hq.block e).2)
  have hqu : QB wc 0 u ys := (QB.of_OB hcu).lower (Nat.zero_le _)
  refine ⟨rfl, ⟨v1, vs ++ [u], heap_set v1 hh1, ?_, ?_, .inl hp, ?_, ?_, hok⟩, ?_⟩
  · rw [List.length_append]
    refine h1.move (fun k e => hs.block k (h1.block e).2 (fun e2 => ?_))
    injection e2 with e2
    exact h1.ne e hh1 (by decide) e2
  · refine (hec.snoc hqu (fun k e x hx e2 => ?_)).move (fun x hx k e => ?_)
    · obtain ⟨l, hq⟩ := he.mem hx
      have h1 := (hq.block e2).2
      have h2 := own_base hcu k e
      omega
    · rcases List.mem_append.1 hx with hx | hx
      · obtain ⟨l, hq⟩ := hec.mem hx
        exact hmv x l hq k e
      · obtain rfl : x = u := by simpa using hx
        exact hmv x ys hqu k e
  · intro k e
    rcases hn with h | ⟨b, h, hb'⟩
    · rw [h] at e; exact .inl (hk k e)
    · rw [h] at e
      injection e with e
      subst e
      exact .inr (Nat.le_trans hb.size hb')
  · intro x hx k e
    rcases List.mem_append.1 hx with hx | hx
    · exact .inl (hu x hx k e)
    · obtain rfl : x = u := by simpa using hx
      exact .inr (own_base hcu k e)
  · refine ((Kept.of_below F hb).trans (Kept.of_grown (F := F) hg hk) (fun _ _ h => h)).trans (Kept.of_grown (F := F) hs (fun k e => by injection e with e; subst e; exact hp)) (fun _ _ h => h)
def RetRTk (W : World) (p : Nat) (F : Nat → Prop) (r : Bag × List Int × Int) (e : Ending) (W' : World) : Prop :=
  ∃ A d, e = .returned (.tuple #[.slice A r.2.1.length d, .int .i64 r.2.2]) ∧ QB W' 0 (.slice A r.2.1.length d) r.2.1 ∧ (∀ k, (Value.slice A r.2.1.length d).ownBlock = some k → F k) ∧ RPathAt W' p r.1 (New W F) ∧ Kept W F W'
theorem retrtk_no {w w' : World} {p : Nat} {F : Nat → Prop} {bag : Bag} {i : Int} (h : RPathAt w p bag F) (hb : Below w.heap.size w w') (ht : takeB bag i = (bag, [], 4)) : RetRTk w p F (takeB bag i) (.returned (.tuple #[.slice none 0 0, .int .i64 4])) w' := by
  rw [ht]
  exact ⟨none, 0, rfl, QB.nil _ _, fun k e => (nomatch e), (h.below hb).mono (fun k hk _ => .inl hk), Kept.of_below _ hb⟩
/-- what Take leaves behind its store -/
theorem rtake_close {w w0 w1 : World} {p : Nat} {bag : Bag} {F : Nat → Prop} {v v1 : Value} {vs : List Value} {k m : Nat} {Au : Option Addr} {d : Nat} (hh : w.heap[p]? = some (.cells #[v] 49 (0, 0))) (ho : OwnAt w 0 26 1 v bag.length vs) (he : Els w vs bag) (hp : F p) (hk : ∀ k, v.ownBlock = some k → F k) (hu : ∀ u ∈ vs, ∀ k, u.ownBlock = some k → F k) (hok : bag.ok)
    (hkl : k < bag.length) (hm : k + m = (bag.eraseIdx k).length) (huk : vs[k]? = some (.slice Au (bag.getD k []).length d)) (hb : Below w.heap.size w w0) (h1 : OwnAt w1 0 26 1 v1 (k + m) (vs.take k ++ vs.drop (k + 1))) (hg : w0.grownBy w1 v.ownBlock) (hn : ∀ k, v1.ownBlock = some k → v.ownBlock = some k ∨ w0.heap.size ≤ k) :
    RetRTk w p F (bag.eraseIdx k, bag.getD k [], 0) (.returned (.tuple #[.slice Au (bag.getD k []).length d, .int .i64 0])) (w1.setCell ⟨p, 0, none⟩ v1) := by
  have hpl : p < w.heap.size := (Array.getElem?_eq_some_iff.1 hh).1
  have hh1 := rpath_cell hh ho hb hg
  have hs := grown_set w1 p 0 v1
  have hmv : ∀ x l, QB w 0 x l → ∀ k, x.ownBlock = some k → (w1.setCell ⟨p, 0, none⟩ v1).heap[k]? = w.heap[k]? := fun x l hq k e => by
    have hkl := (hq.block e).2
    have hkp : k ≠ p := OwnAt.ne hq e hh (by decide)
    have hkv : some k ≠ v.ownBlock := fun e2 => by
      obtain ⟨cur, hc⟩ := ho.type e2.symm
      obtain ⟨cur2, hc2⟩ := OwnAt.type hq e
      rw [hc] at hc2
      injection hc2 with hc2
      injection hc2 with _ hc2
      exact absurd hc2 (by decide)
    exact ((hs.block k (Nat.lt_of_lt_of_le (Nat.lt_of_lt_of_le hkl hb.size) hg.size) (fun e => hkp (by injection e))).trans (hg.block k (Nat.lt_of_lt_of_le hkl hb.size) hkv)).trans (hb.block k hkl)
  have hbk : bag[k]? = some (bag.getD k []) := by rw [List.getD_eq_getElem?_getD, List.getElem?_eq_getElem hkl]; rfl
  have hqk := he.own k _ _ huk hbk
  refine ⟨Au, d, rfl, hqk.move (hmv _ _ hqk), fun k e => hu _ (List.mem_of_getElem? huk) k e, ⟨v1, vs.eraseIdx k, heap_set v1 hh1, ?_, (he.erase k).move (fun x hx k' e => ?_), .inl hp, ?_, fun x hx k' e => ?_, Bag.ok_erase hok k⟩, ?_⟩
  · rw [← hm, List.eraseIdx_eq_take_drop_succ]
    refine h1.move (fun k e => hs.block k (h1.block e).2 (fun e2 => ?_))
    injection e2 with e2
    exact h1.ne e hh1 (by decide) e2
  · obtain ⟨l, hq⟩ := he.mem (List.mem_of_mem_eraseIdx hx)
    exact hmv x l hq k' e
  · intro k e
    exact (hn k e).imp (hk k) (Nat.le_trans hb.size)
  · exact .inl (hu x (List.mem_of_mem_eraseIdx hx) k' e)
  · exact ((Kept.of_below F hb).trans (Kept.of_grown (F := F) hg hk) (fun _ _ h => h)).trans (Kept.of_grown (F := F) hs (fun k e => by injection e with e; subst e; exact hp)) (fun _ _ h => h)
/-- a member of the bag, where it lies -/
theorem RPathAt.get {W : World} {p : Nat} {bag : Bag} {F : Nat → Prop} (h : RPathAt W p bag F) {k : Nat} (hk : k < bag.length) :
    ∃ g off d Au du, W.cell? ⟨p, 0, none⟩ = some (.slice (some ⟨g, off, none⟩) bag.length d) ∧ W.cell? ⟨g, off + k, none⟩ = some (.slice Au (bag.getD k []).length du) ∧ Kd.C (Kd.int .u8) W Au (bag.getD k []).length (bag.getD k []) ∧ bag.length ≤ d := by
  obtain ⟨v, vs, hh, ho, he, hp, hkf, hu, hok⟩ := h
  have hbk : bag[k]? = some (bag.getD k []) := by rw [List.getD_eq_getElem?_getD, List.getElem?_eq_getElem hk]; rfl
  have hkv : k < vs.length := by have := he.len; omega
  have hvk := List.getElem?_eq_getElem hkv
  obtain ⟨Au, du, hu1, _, _, hC⟩ := (he.own k _ _ hvk hbk).form
  rcases ho.2 with ⟨_, h0⟩ | ⟨g, off, cap, cur, rfl, _, _, hc, _⟩
  · omega
  · exact ⟨g, off, cap, Au, du, (one_cell hh).1, by rw [← hu1]; exact ho.at hvk, hC, hc⟩
/-- what Turn leaves -/
theorem rturn_close {w : World} {p : Nat} {bag : Bag} {F : Nat → Prop} {v : Value} {vs : List Value} {k g off du : Nat} {at_ : Nat} {y : Int} (hh : w.heap[p]? = some (.cells #[v] 49 (0, 0))) (ho : OwnAt w 0 26 1 v bag.length vs) (he : Els w vs bag) (hp : F p) (hk : ∀ k, v.ownBlock = some k → F k) (hu : ∀ u ∈ vs, ∀ k, u.ownBlock = some k → F k) (hok : bag.ok)
    (hkl : k < bag.length) (huk : vs[k]? = some (.slice (some ⟨g, off, none⟩) (bag.getD k []).length du)) (ha : at_ < (bag.getD k []).length) (hy : Byte y) :
    RetRP w p F (bag.set k (turnL (bag.getD k []) at_ y)) 0 (.returned (.int .i64 0)) (w.setCell ⟨g, off + at_, none⟩ (.int .u8 ((((bag.getD k []).getD at_ 0).toNat ^^^ y.toNat : Nat) : Int))) := by
  have hbk : bag[k]? = some (bag.getD k []) := by rw [List.getD_eq_getElem?_getD, List.getElem?_eq_getElem hkl]; rfl
  have hqk := he.own k _ _ huk hbk
  obtain ⟨_, _, hq2⟩ := hqk.set ha ((((bag.getD k []).getD at_ 0).toNat ^^^ y.toNat : Nat) : Int)
  have hs := grown_set w g (off + at_) (.int .u8 ((((bag.getD k []).getD at_ 0).toNat ^^^ y.toNat : Nat) : Int))
  have hgp : g ≠ p := OwnAt.ne hqk (k := g) rfl hh (by decide)
  have hgv : v.ownBlock ≠ some g := fun e => by
    obtain ⟨cur, hc⟩ := ho.type e
    obtain ⟨cur2, hc2⟩ := OwnAt.type hqk (k := g) rfl
    rw [hc] at hc2
    injection hc2 with hc2
    injection hc2 with _ hc2
    exact absurd hc2 (by decide)
  have hpl : p < w.heap.size := (Array.getElem?_eq_some_iff.1 hh).1
  refine ⟨rfl, ⟨v, vs, (hs.block p hpl (fun e => hgp (by injection e with e; exact e.symm))).trans hh, ?_, he.put huk (fun k' hne hlt => hs.block k' hlt (fun e => hne (by rw [e]; rfl))) hq2, .inl hp, fun k e => .inl (hk k e), fun x hx k e => .inl (hu x hx k e), Bag.ok_set hok k ?_ ?_⟩, Kept.of_grown hs (fun k' e => by injection e with e; subst e; exact hu _ (List.mem_of_getElem? huk) g rfl)⟩
  · rw [List.length_set]
    exact ho.move (fun k e => hs.block k (ho.block e).2 (fun e2 => hgv (by rw [e, e2])))
  · unfold turnL; rw [List.length_set]; exact (Bag.get_ok hok k).1
  · exact turnL_bytes (Bag.get_ok hok k).2 at_ hy
end Go.Proofs.Ytilogpjbdemceaa.Oct
