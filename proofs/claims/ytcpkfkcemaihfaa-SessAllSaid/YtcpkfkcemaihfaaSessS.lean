import Derived.Test.YtcpkfkcemaihfaaSessR
/- On of an end beside the document's, its bytes apart; frames whose bytes are stored to. -/
namespace Go.Proofs.Ytcpkfkcemaihfaa.Oct
open Go.RowKit Go.Proofs.YtcpkfkcemaihfaaW.PrintWords Go.Proofs.Ytcpkfkcemaihfaa.M
set_option linter.unusedVariables false
set_option linter.unusedSimpArgs false
theorem TwoE.onx {base : Nat} {W : World} {a x : Nat} {s u : Es} {r : Es × List Int × Int} {X : Nat → Prop} {f : Nat} {args : Array Value} (h : TwoE base W a s x u X) (hc : ∀ F, EndAt W a s F → (∀ k, F k → base ≤ k) → Calls Try.prog f args W (RetOn W a F r)) :
    Calls Try.prog f args W (fun e W' => ∃ A d, e = .returned (.tuple #[.slice A r.2.1.length d, .int .i64 r.2.2]) ∧ OB W' W.heap.size (.slice A r.2.1.length d) r.2.1 ∧ TwoE base W' a r.1 x u (fun k => X k ∨ (W.heap.size ≤ k ∧ k < W'.heap.size)) ∧ KX base W X W') := by
  obtain ⟨H, ⟨F, e1, e4⟩, h2, h3, h4, h5⟩ := h
  refine (hc F e1 (fun k c => (e4 k c).1)).mono ?_
  rintro e W' ⟨A, d, rfl, ho, ht, hk⟩
  have hs := hk.size
  refine ⟨A, d, rfl, ho, ⟨H, ⟨F, ht, fun k c => ⟨(e4 k c).1, Nat.lt_of_lt_of_le (e4 k c).2.1 hs, ?_⟩⟩, h2.step (fun k c l => hk.block k l (fun g => (e4 k g).2.2 (.inl c))), fun k c => ⟨(h3 k c).1, Nat.lt_of_lt_of_le (h3 k c).2.1 hs, ?_⟩, ?_, Nat.le_trans h5 hs⟩, KX.of_kept hk h5 (fun k c => ⟨(e4 k c).1, fun g => (e4 k c).2.2 (.inr g)⟩)⟩
  · rintro (g | g | g)
    · exact (e4 k c).2.2 (.inl g)
    · exact (e4 k c).2.2 (.inr g)
    · have := (e4 k c).2.1; omega
  · rintro (g | g)
    · exact (h3 k c).2.2 g
    · have := (h3 k c).2.1; omega
  · rintro k (g | g)
    · exact Nat.lt_of_lt_of_le (h4 k g) hs
    · exact g.2
theorem set_window {α : Type} (l : List α) (i off n : Nat) (v : α) : ((l.set i v).drop off).take n = if off ≤ i then ((l.drop off).take n).set (i - off) v else (l.drop off).take n := by
  split
  · rename_i h
    rw [List.drop_set, if_neg (by omega), List.take_set]
  · rename_i h
    rw [List.drop_set, if_pos (by omega)]
theorem nums_set (zs : List Int) (i : Nat) (z : Int) : (nums .u8 zs).set i (.int .u8 z) = nums .u8 (zs.set i z) := by
  unfold nums
  rw [List.map_set]
/-- a byte stored anywhere leaves bytes bytes -/
theorem body_set {W : World} {base n : Nat} {v : Value} {g i : Nat} {z : Int} (h : ∃ zs : List Int, zs.length = n ∧ QB W base v zs) : ∃ zs : List Int, zs.length = n ∧ QB (W.setCell ⟨g, i, none⟩ (.int .u8 z)) base v zs := by
  obtain ⟨zs, hn, hq⟩ := h
  by_cases hv : v.ownBlock = some g
  · have h2 := hq.2
    rcases h2 with ⟨e, h0⟩ | ⟨g', off, cap, cur, e, hb, hh, a1, a2, a3, a4⟩
    · subst e; exact (nomatch hv)
    · subst e
      injection hv with hv
      dsimp only at hv
      subst hv
      refine ⟨if off ≤ i then zs.set (i - off) z else zs, by split <;> simp [hn], ?_⟩
      have hln : (if off ≤ i then zs.set (i - off) z else zs).length = zs.length := by split <;> simp
      unfold QB
      rw [hln]
      refine ⟨?_, .inr ⟨g', off, cap, cur.set! i (.int .u8 z), rfl, hb, ?_, a1, a2, ?_, ?_⟩⟩
      · rw [← hln, Nat.mul_one]
        unfold nums
        rw [List.length_map]
      · exact heap_set _ hh
      · rw [Array.size_set!]; exact a3
      · rw [Array.set!_eq_setIfInBounds, Array.toList_setIfInBounds, set_window, a4]
        split
        · rw [nums_set]
        · rfl
  · exact ⟨zs, hn, hq.move (fun k e => (grown_set W g i _).block k (hq.block e).2 (fun e2 => hv (by rw [e, e2])))⟩
/-- frames' rows; their bytes are any -/
def FI (W : World) (base : Nat) (v : Value) (n : Nat) : Prop := ∃ vs : List Value, OwnAt W base 42 4 v n vs ∧ ∀ j, j < n → ∃ Au m du, vs[4 * j + 3]? = some (.slice Au m du) ∧ ∃ zs : List Int, zs.length = m ∧ QB W base (.slice Au m du) zs
theorem FW.fi {W : World} {base : Nat} {v : Value} {ls : List FR} (h : FW W base v ls) : FI W base v ls.length := by
  obtain ⟨vs, h1, h2⟩ := h
  refine ⟨vs, h1, fun j hj => ?_⟩
  obtain ⟨_, _, _, u, e4, ho⟩ := h2 j _ (List.getElem?_eq_getElem hj)
  obtain ⟨Au, du, rfl, _⟩ := ho.form
  exact ⟨Au, _, du, e4, _, rfl, ho⟩
theorem FI.below {W W' : World} {base n : Nat} {v : Value} (h : FI W base v n) (hb : Below W.heap.size W W') : FI W' base v n := by
  obtain ⟨vs, h1, h2⟩ := h
  refine ⟨vs, h1.move (fun k hk => hb.block k (h1.block hk).2), fun j hj => ?_⟩
  obtain ⟨Au, m, du, e, zs, hl, hq⟩ := h2 j hj
  exact ⟨Au, m, du, e, zs, hl, hq.move (fun k hk => hb.block k (hq.block hk).2)⟩
/-- a frame of the row: where its bytes lie; a byte of them is stored -/
theorem FI.at {W : World} {base n c : Nat} {A : Option Addr} (h : FI W base (.slice A n c) n) {j : Nat} (hj : j < n) : ∃ ad Au m du, A = some ad ∧ m ≤ 9223372036854775807 ∧ W.cell? ⟨(ad.add (j * 4)).block, (ad.add (j * 4)).off + 3, none⟩ = some (.slice Au m du) ∧
    ∀ z, z < m → ∃ g off y, Au = some ⟨g, off, none⟩ ∧ base ≤ g ∧ g < W.heap.size ∧ W.cell? ⟨g, off + z, none⟩ = some (.int .u8 y) ∧ W.frozen? ⟨g, off + z, none⟩ = false ∧ FI (W.setCell ⟨g, off + z, none⟩ (.int .u8 9)) base (.slice A n c) n ∧ (W.setCell ⟨g, off + z, none⟩ (.int .u8 9)).cell? ⟨(ad.add (j * 4)).block, (ad.add (j * 4)).off + 3, none⟩ = some (.slice Au m du) := by
  obtain ⟨vs, h1, h2⟩ := h
  obtain ⟨Au, m, du, e, zs, hl, hq⟩ := h2 j hj
  obtain ⟨ad, ea, k0⟩ := OwnAt.cell h1 e
  rw [Nat.mul_comm 4 j, add_lit9] at k0
  refine ⟨ad, Au, m, du, ea, ?_, k0, fun z hz => ?_⟩
  · obtain ⟨_, _, e', a1, a2, _⟩ := hq.form
    injection e' with _ e2 _
    simp only [maxLen] at a2
    omega
  · rcases hq.2 with ⟨e', h0⟩ | ⟨g, off, cap, cur, e', hb, hh, a1, a2, a3, a4⟩
    · omega
    · injection e' with e1 e2 e3
      subst e1
      have hzl : z < zs.length := by omega
      have hsz : off + z < cur.size := by omega
      have hcell : cur[off + z]? = some (.int .u8 (zs[z])) := by
        have h9 : ((cur.toList.drop off).take (zs.length * 1))[z]? = (nums .u8 zs)[z]? := by rw [a4]
        rw [List.getElem?_take, if_pos (by omega), List.getElem?_drop] at h9
        unfold nums at h9
        rw [List.getElem?_map, List.getElem?_eq_getElem hzl] at h9
        simpa using h9
      have hmv : OwnAt (W.setCell ⟨g, off + z, none⟩ (.int .u8 9)) base 42 4 (.slice A n c) n vs := h1.move (fun k hk => (grown_set W g (off + z) _).block k (h1.block hk).2 (fun e2 => by
        injection e2 with e2
        subst e2
        obtain ⟨cur2, hc2⟩ := h1.type hk
        rw [hh] at hc2
        injection hc2 with hc2
        injection hc2 with _ hc2
        exact absurd hc2 (by decide)))
      refine ⟨g, off, zs[z], rfl, hb, (Array.getElem?_eq_some_iff.1 hh).1, ?_, ?_, ⟨vs, hmv, fun j' hj' => ?_⟩, ?_⟩
      · simp [World.cell?, hh, hcell]
      · simp [World.frozen?, hh]
      · obtain ⟨Au', m', du', e4, hq'⟩ := h2 j' hj'
        exact ⟨Au', m', du', e4, body_set hq'⟩
      · obtain ⟨ad2, ea2, k1⟩ := OwnAt.cell hmv e
        rw [ea] at ea2
        injection ea2 with ea2
        rw [← ea2, Nat.mul_comm 4 j, add_lit9] at k1
        exact k1
end Go.Proofs.Ytcpkfkcemaihfaa.Oct
