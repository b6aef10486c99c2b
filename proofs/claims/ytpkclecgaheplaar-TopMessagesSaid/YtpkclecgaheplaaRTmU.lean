import Derived.Test.YtpkclecgaheplaaRTmT
/- TopMessages: what the bag holds (plain); the path and the row of flags beside it. -/
namespace Go.Proofs.YtpkclecgaheplaaR.Oct
open Go.RowKit Go.Proofs.YtpkclecgaheplaaRW.PrintWords Go.Proofs.YtpkclecgaheplaaR.M
set_option linter.unusedVariables false
set_option linter.unusedSimpArgs false
abbrev mgZ : MgT := (0, (0, 0, 0), false, 0, 0)
def pkt (l : List MgT) (i : Nat) : FR := ⟨9, i, 0, (mgOf (l.getD i mgZ)).bytes⟩
def TrB (l : List MgT) (u : List Int) (f : Bool) : Prop := ∃ i, i < l.length ∧ (mgOf (l.getD i mgZ)).right ∧ (f = false → u = (pkt l i).all) ∧ (f = true → ∃ n y, n < (pkt l i).all.length ∧ Byte y ∧ (pkt l i).all.getD n 0 ≠ y ∧ u = (pkt l i).all.set n y)
def TrI (l : List MgT) (bag : Bag) (fl : List Bool) : Prop := fl.length = bag.length ∧ ∀ j, j < bag.length → TrB l (bag.getD j []) (fl.getD j false)
theorem pkt_ok {l : List MgT} (hl : l.length ≤ 40) (hg : ∀ o ∈ l, MgG o) {i : Nat} (hi : i < l.length) (hr : (mgOf (l.getD i mgZ)).right) : (pkt l i).mayP ∧ (pkt l i).ok ∧ (mgOf (l.getD i mgZ)).ok ∧ (mgOf (l.getD i mgZ)).bytes.length ≤ 14 := by
  have h1 : (mgOf (l.getD i mgZ)).bytes.length ≤ 14 := by have := Mg.bytes_len (mgOf (l.getD i mgZ)); have := Mg.data_len (mgOf (l.getD i mgZ)); omega
  have h2 := Mg.bytes_bytes hr
  have h3 : (mgOf (l.getD i mgZ)).ok := MgG.ok (hg _ (by rw [List.getD_eq_getElem?_getD, List.getElem?_eq_getElem hi]; exact List.getElem_mem hi))
  refine ⟨?_, ⟨⟨by show (0 : Int) ≤ 9; omega, by show (9 : Int) < 4294967296; omega⟩, ⟨by show (-9223372036854775808 : Int) ≤ i; omega, by show (i : Int) ≤ 9223372036854775807; omega⟩, ⟨by show (-9223372036854775808 : Int) ≤ 0; omega, by show (0 : Int) ≤ 9223372036854775807; omega⟩, h2⟩, h3, h1⟩
  unfold FR.mayP pkt
  dsimp only
  omega
theorem TrI.nil (l : List MgT) : TrI l [] [] := ⟨rfl, fun j h => by simp at h⟩
theorem TrI.snoc {l : List MgT} {bag : Bag} {fl : List Bool} (h : TrI l bag fl) {u : List Int} {f : Bool} (hu : TrB l u f) : TrI l (bag ++ [u]) (fl ++ [f]) := by
  refine ⟨by simp [h.1], fun j hj => ?_⟩
  rw [List.getD_eq_getElem?_getD, List.getD_eq_getElem?_getD]
  by_cases hlt : j < bag.length
  · rw [List.getElem?_append_left hlt, List.getElem?_append_left (by rw [h.1]; exact hlt), ← List.getD_eq_getElem?_getD, ← List.getD_eq_getElem?_getD]
    exact h.2 j hlt
  · have e : j = bag.length := by simp at hj; omega
    subst e
    rw [List.getElem?_append_right (Nat.le_refl _), List.getElem?_append_right (by rw [h.1]; exact Nat.le_refl _), h.1, Nat.sub_self]
    exact hu
theorem TrI.erase {l : List MgT} {bag : Bag} {fl : List Bool} (h : TrI l bag fl) {k : Nat} (hk : k < bag.length) : TrI l (bag.eraseIdx k) (fl.eraseIdx k) := by
  have hf : k < fl.length := by rw [h.1]; exact hk
  refine ⟨by rw [List.length_eraseIdx, List.length_eraseIdx, if_pos hk, if_pos hf, h.1], fun j hj => ?_⟩
  rw [List.length_eraseIdx, if_pos hk] at hj
  rw [List.getD_eq_getElem?_getD, List.getD_eq_getElem?_getD, List.getElem?_eraseIdx, List.getElem?_eraseIdx]
  split
  · rw [← List.getD_eq_getElem?_getD, ← List.getD_eq_getElem?_getD]
    exact h.2 j (by omega)
  · rw [← List.getD_eq_getElem?_getD, ← List.getD_eq_getElem?_getD]
    exact h.2 (j + 1) (by omega)
theorem xor_ne {a b : Nat} (h : b ≠ 0) : a ^^^ b ≠ a := by
  intro e
  have h1 : a ^^^ (a ^^^ b) = a ^^^ a := by rw [e]
  rw [← Nat.xor_assoc, Nat.xor_self, Nat.zero_xor] at h1
  exact h h1
theorem TrI.turn {l : List MgT} (hl : l.length ≤ 40) (hg : ∀ o ∈ l, MgG o) {bag : Bag} {fl : List Bool} (h : TrI l bag fl) {k n : Nat} (hk : k < bag.length) (hf : fl.getD k false = false) (hn : n < (bag.getD k []).length) {y : Int} (hy : Byte y) (hy0 : y ≠ 0) : TrI l (bag.set k (turnL (bag.getD k []) n y)) (fl.set k true) := by
  refine ⟨by rw [List.length_set, List.length_set, h.1], fun j hj => ?_⟩
  rw [List.length_set] at hj
  obtain ⟨T, hT⟩ : ∃ T, T = turnL (bag.getD k []) n y := ⟨_, rfl⟩
  rw [← hT, List.getD_eq_getElem?_getD, List.getD_eq_getElem?_getD, List.getElem?_set, List.getElem?_set]
  by_cases e : k = j
  · subst e
    rw [if_pos rfl, if_pos rfl, if_pos hk, if_pos (by rw [h.1]; exact hk)]
    obtain ⟨i, hi, hr, h1, _⟩ := h.2 k hk
    have hb := h1 hf
    have hp := pkt_ok hl hg hi hr
    refine ⟨i, hi, hr, fun e => by simp at e, fun _ => ⟨n, ((((pkt l i).all.getD n 0).toNat ^^^ y.toNat : Nat) : Int), by rw [← hb]; exact hn, ?_, ?_, by show T = _; rw [hT, hb]; rfl⟩⟩
    · have hx := (FR.all_bytes hp.2.1).getD n
      unfold Byte at *
      have := xor_byte (a := ((pkt l i).all.getD n 0).toNat) (b := y.toNat) (by omega) (by omega)
      omega
    · have hx := (FR.all_bytes hp.2.1).getD n
      unfold Byte at *
      have := xor_ne (a := ((pkt l i).all.getD n 0).toNat) (b := y.toNat) (by omega)
      omega
  · rw [if_neg e, if_neg e, ← List.getD_eq_getElem?_getD, ← List.getD_eq_getElem?_getD]
    exact h.2 j hj
theorem TrI.read {l : List MgT} (hl : l.length ≤ 40) (hg : ∀ o ∈ l, MgG o) {bag : Bag} {fl : List Bool} (h : TrI l bag fl) {k : Nat} (hk : k < bag.length) :
    (fl.getD k false = false → ∃ i, i < l.length ∧ (mgOf (l.getD i mgZ)).right ∧ readF (bag.getD k []) = (pkt l i, 0)) ∧ (fl.getD k false = true → (readF (bag.getD k [])).2 ≠ 0) := by
  obtain ⟨i, hi, hr, h1, h2⟩ := h.2 k hk
  have hp := pkt_ok hl hg hi hr
  refine ⟨fun e => ⟨i, hi, hr, by rw [h1 e]; exact readF_all hp.1 hp.2.1⟩, fun e => ?_⟩
  obtain ⟨n, y, hn, hy, hne, hu⟩ := h2 e
  rw [hu]
  exact readF_turned hp.1 hp.2.1 hn hy hne
/-- the path, and the row of flags beside it; ex: what is neither's -/
def TmI (base : Nat) (ex : Nat → Prop) (W : World) (p : Nat) (v : Value) (bag : Bag) (fl : List Bool) : Prop :=
  ∃ F : Nat → Prop, PathAt W p bag F ∧ OwnAt W base 4 1 v fl.length (fl.map Value.bool) ∧ (∀ k, F k → base ≤ k ∧ k < W.heap.size ∧ ¬ ex k) ∧ (∀ k, v.ownBlock = some k → ¬ F k ∧ ¬ ex k)
section
variable {base : Nat} {ex : Nat → Prop} {W W' : World} {p : Nat} {v : Value} {bag bag' : Bag} {fl : List Bool}
theorem TmI.setx {ex' : Nat → Prop} (h : TmI base ex W p v bag fl) (hb : Below W.heap.size W W') (he : ∀ k, ex' k → W.heap.size ≤ k) : TmI base ex' W' p v bag fl := by
  obtain ⟨F, h1, h2, h3, h4⟩ := h
  exact ⟨F, h1.below hb, h2.move (fun k e => hb.block k (h2.block e).2), fun k hk => ⟨(h3 k hk).1, Nat.lt_of_lt_of_le (h3 k hk).2.1 hb.size, fun e => by have := he k e; have := (h3 k hk).2.1; omega⟩, fun k e => ⟨(h4 k e).1, fun e2 => by have := he k e2; have := (h2.block e).2; omega⟩⟩
theorem TmI.dropx (h : TmI base ex W p v bag fl) : TmI base (fun _ => False) W p v bag fl := by
  obtain ⟨F, h1, h2, h3, h4⟩ := h
  exact ⟨F, h1, h2, fun k hk => ⟨(h3 k hk).1, (h3 k hk).2.1, id⟩, fun k e => ⟨(h4 k e).1, id⟩⟩
theorem TmI.below (h : TmI base ex W p v bag fl) (hb : Below W.heap.size W W') : TmI base ex W' p v bag fl := by
  obtain ⟨F, h1, h2, h3, h4⟩ := h
  exact ⟨F, h1.below hb, h2.move (fun k e => hb.block k (h2.block e).2), fun k hk => ⟨(h3 k hk).1, Nat.lt_of_lt_of_le (h3 k hk).2.1 hb.size, (h3 k hk).2.2⟩, h4⟩
theorem TmI.is (h : TmI base ex W p v bag fl) : bag.ok ∧ OwnAt W base 4 1 v fl.length (fl.map Value.bool) := by
  obtain ⟨F, h1, h2, _⟩ := h
  exact ⟨h1.is.2.2, h2⟩
theorem TmI.step {F : Nat → Prop} (hbs : base ≤ W.heap.size) (hx : ∀ k, ex k → k < W.heap.size) (h2 : OwnAt W base 4 1 v fl.length (fl.map Value.bool)) (h3 : ∀ k, F k → base ≤ k ∧ k < W.heap.size ∧ ¬ ex k) (h4 : ∀ k, v.ownBlock = some k → ¬ F k ∧ ¬ ex k) (ht : PathAt W' p bag' (New W F)) (hk : Kept W F W') : TmI base ex W' p v bag' fl ∧ Below base W W' ∧ (∀ k, ex k → W'.heap[k]? = W.heap[k]?) := by
  refine ⟨⟨fun k => New W F k ∧ k < W'.heap.size, ht.mono (fun k h hl => ⟨h, hl⟩), h2.move (fun k e => hk.block k (h2.block e).2 (h4 k e).1), ?_, ?_⟩, below_kept (Below.refl _ _) hk hbs (fun k hf => (h3 k hf).1), fun k e => hk.block k (hx k e) (fun hf => (h3 k hf).2.2 e)⟩
  · rintro k ⟨hf | hn, hl⟩
    · exact ⟨(h3 k hf).1, hl, (h3 k hf).2.2⟩
    · have hn : W.heap.size ≤ k := hn
      exact ⟨by omega, hl, fun e => by have := hx k e; omega⟩
  · rintro k e
    refine ⟨?_, (h4 k e).2⟩
    rintro ⟨hf | hn, _⟩
    · exact (h4 k e).1 hf
    · have hn : W.heap.size ≤ k := hn
      have := (h2.block e).2
      omega
theorem TmI.path {f : Nat} {args : Array Value} {n : Int} (h : TmI base ex W p v bag fl) (hbs : base ≤ W.heap.size) (hx : ∀ k, ex k → k < W.heap.size)
    (hc : ∀ F, PathAt W p bag F → Calls Try.prog f args W (RetP W p F bag' n)) : Calls Try.prog f args W (fun e W' => e = .returned (.int .i64 n) ∧ TmI base ex W' p v bag' fl ∧ Below base W W' ∧ (∀ k, ex k → W'.heap[k]? = W.heap[k]?)) := by
  obtain ⟨F, h1, h2, h3, h4⟩ := h
  refine (hc F h1).mono ?_
  rintro e W' ⟨rfl, ht, hk⟩
  exact ⟨rfl, TmI.step hbs hx h2 h3 h4 ht hk⟩
theorem TmI.take (h : TmI base ex W p v bag fl) (hbs : base ≤ W.heap.size) (hx : ∀ k, ex k → k < W.heap.size) (i : Int) :
    Calls Try.prog 9 #[.pointer (some ⟨p, 0, none⟩), .int .i64 i] W (fun e W' => ∃ A d, e = .returned (.tuple #[.slice A (takeB bag i).2.1.length d, .int .i64 (takeB bag i).2.2]) ∧ QB W' 0 (.slice A (takeB bag i).2.1.length d) (takeB bag i).2.1 ∧ (∀ k, (Value.slice A (takeB bag i).2.1.length d).ownBlock = some k → v.ownBlock ≠ some k) ∧ TmI base ex W' p v (takeB bag i).1 fl ∧ Below base W W' ∧ (∀ k, ex k → W'.heap[k]? = W.heap[k]?)) := by
  obtain ⟨F, h1, h2, h3, h4⟩ := h
  refine (ptake_calls W p bag F i h1).mono ?_
  rintro e W' ⟨A, d, rfl, hq, hu, ht, hk⟩
  exact ⟨A, d, rfl, hq, fun k e e2 => (h4 k e2).1 (hu k e), TmI.step hbs hx h2 h3 h4 ht hk⟩
theorem TmI.row {W1 : World} {v1 : Value} {fl' : List Bool} (h : TmI base ex W p v bag fl) (hbs : base ≤ W.heap.size) (hx : ∀ k, ex k → k < W.heap.size) (ho : OwnAt W1 base 4 1 v1 fl'.length (fl'.map Value.bool)) (hg : W.grownBy W1 v.ownBlock) (hn : v1.ownBlock = v.ownBlock ∨ ∃ b, v1.ownBlock = some b ∧ W.heap.size ≤ b) : TmI base ex W1 p v1 bag fl' ∧ Below base W W1 ∧ (∀ k, ex k → W1.heap[k]? = W.heap[k]?) := by
  obtain ⟨F, h1, h2, h3, h4⟩ := h
  refine ⟨⟨F, h1.step (fun k hk hl => hg.block k hl (fun e => (h4 k e.symm).1 hk)), ho, fun k hk => ⟨(h3 k hk).1, Nat.lt_of_lt_of_le (h3 k hk).2.1 hg.size, (h3 k hk).2.2⟩, fun k e => ?_⟩, (Below.refl base W).grown hg hbs (fun k e => (h2.block e).1), fun k e => hg.block k (hx k e) (fun e2 => (h4 k e2.symm).2 e)⟩
  rcases hn with hn | ⟨b, hb, hs⟩
  · exact h4 k (by rw [← hn]; exact e)
  · rw [hb] at e
    injection e with e
    exact ⟨fun hf => by have := (h3 k hf).2.1; omega, fun e2 => by have := hx k e2; omega⟩
end
theorem info_bool : (Try.prog.info? 4).map (fun i => (i.zero, i.size, i.bytes)) = some (some (.bool false), 1, 1) := by kernel_rfl
theorem bools_one (gl : List Bool) : ∀ u ∈ gl.map Value.bool, u.oneCell' = true := fun u hu => by
  obtain ⟨b, _, rfl⟩ := List.mem_map.1 hu
  rfl
section
variable {ops : Array Oper} {rest : List Oper} {o : Oper} {a : Act} {Q : Exit → Act → World → Prop}
theorem app_bool {W : World} (base : Nat) (hgd : o.guard = none) (s x : Operand) (ho : o.op = .call { callee := .builtin .append, args := #[s, x], argTypes := #[27, 27] })
    (v : Value) (fl : List Bool) (f : Bool) (g : Nat) (hs : a.eval s = v) (hx : a.eval x = .slice (some ⟨g, 0, none⟩) 1 1) (HO : OwnAt W base 4 1 v fl.length (fl.map Value.bool)) (hb : W.heap[g]? = some (.cells #[.bool f] 4 (0, 0)))
    (hbase : base ≤ W.heap.size) (hl : fl.length ≤ 1000000)
    (h : ∀ v1 w1, OwnAt w1 base 4 1 v1 (fl ++ [f]).length ((fl ++ [f]).map Value.bool) → W.grownBy w1 v.ownBlock → (v1.ownBlock = v.ownBlock ∨ ∃ b, v1.ownBlock = some b ∧ W.heap.size ≤ b) → wpList Try.prog ops Q rest (a.put o.dst v1) w1) :
    wpList Try.prog ops Q (o :: rest) a W := by
  obtain ⟨i0, hi0, hz0, hz1, hz2⟩ := info_parts info_bool
  refine wpList_append_at W hgd s x 27 ho base 4 i0 (.bool false) 1 1 Try.underlying27 hi0 hz0 hz1 hz2 rfl Nat.zero_lt_one v fl.length (fl.map Value.bool) hs HO (some ⟨g, 0, none⟩) 1 1 [.bool f] hx rfl (fun _ => ⟨_, rfl, fun j u' hu' => ?_⟩) (bools_one [f]) (by simp only [maxLen]; omega) (by omega) hbase ?_
  · have hj : j = 0 := by have := (List.getElem?_eq_some_iff.1 hu').1; simpa using this
    subst hj
    obtain rfl : u' = .bool f := by simpa using hu'.symm
    rw [Addr.add_lit]
    exact (one_cell hb).1
  · intro v1 w1 ho1 hg hn
    exact h v1 w1 (by rw [List.length_append, List.map_append]; exact ho1) hg hn
end
/-- one flag of the row: read, and set -/
theorem TmI.flag {base : Nat} {ex : Nat → Prop} {W : World} {p : Nat} {g off n c : Nat} {bag : Bag} {fl : List Bool} (h : TmI base ex W p (.slice (some ⟨g, off, none⟩) n c) bag fl) (hn : n = fl.length) {k : Nat} (hk : k < fl.length) :
    W.cell? ⟨g, off + k, none⟩ = some (.bool (fl.getD k false)) ∧ W.frozen? ⟨g, off + k, none⟩ = false ∧ TmI base ex (W.setCell ⟨g, off + k, none⟩ (.bool true)) p (.slice (some ⟨g, off, none⟩) n c) bag (fl.set k true) ∧ base ≤ g ∧ ¬ ex g := by
  subst hn
  obtain ⟨F, h1, h2, h3, h4⟩ := h
  have hv : (fl.map Value.bool)[k]? = some (.bool (fl.getD k false)) := by rw [List.getElem?_map, List.getD_eq_getElem?_getD, List.getElem?_eq_getElem hk]; rfl
  have hs := grown_set W g (off + k) (.bool true)
  refine ⟨h2.at hv, ?_, ⟨F, h1.step (fun k' hf hl => hs.block k' hl (fun e => (h4 k' e.symm).1 hf)), ?_, fun k' hf => ⟨(h3 k' hf).1, Nat.lt_of_lt_of_le (h3 k' hf).2.1 hs.size, (h3 k' hf).2.2⟩, h4⟩, (h2.block (k := g) rfl).1, (h4 g rfl).2⟩
  · rcases h2.2 with ⟨e1, _⟩ | ⟨g', off', cap, cur, e1, hb, hh, hc, hm, h6, h7⟩
    · cases e1
    · injection e1 with e1 e2 e3
      obtain ⟨rfl, rfl⟩ : g = g' ∧ off = off' := by simpa using e1
      simp [World.frozen?, hh]
  · rcases h2.2 with ⟨e1, _⟩ | ⟨g', off', cap, cur, e1, hb, hh, hc, hm, h6, h7⟩
    · cases e1
    · injection e1 with e1 e2 e3
      obtain ⟨rfl, rfl⟩ : g = g' ∧ off = off' := by simpa using e1
      refine ⟨by simp, .inr ⟨g, off, cap, _, by rw [List.length_set, e3], hb, heap_set (.bool true) hh, by rw [List.length_set]; exact hc, hm, by simpa using h6, ?_⟩⟩
      rw [List.map_set, ← h7, List.length_set]
      apply List.ext_getElem?
      intro j
      simp only [Array.toList_setIfInBounds, List.getElem?_take, List.getElem?_drop, List.getElem?_set, List.length_take, List.length_drop, Array.length_toList]
      by_cases e : k = j
      · subst e
        have : off + k < cur.toList.length := by rw [Array.length_toList]; omega
        simp [hk, this]
        rw [if_pos (by omega), if_pos (by omega)]
      · have e2 : ¬ off + k = off + j := by omega
        simp only [if_neg e, if_neg e2]
end Go.Proofs.YtpkclecgaheplaaR.Oct
