import Derived.Test.YtpkclecgaheplaaRPathC
namespace Go.Proofs.YtpkclecgaheplaaR.Oct
open Go.RowKit Go.Proofs.YtpkclecgaheplaaRW.PrintWords Go.Proofs.YtpkclecgaheplaaR.M
set_option linter.unusedVariables false
set_option linter.unusedSimpArgs false
theorem ptake_calls (w : World) (p : Nat) (bag : Bag) (F : Nat → Prop) (i : Int) (h : PathAt w p bag F) :
    Calls Try.prog 9 #[.pointer (some ⟨p, 0, none⟩), .int .i64 i] w (RetTk w p F (takeB bag i)) := by
  by_cases hi : i < 0 ∨ (bag.length : Int) ≤ i
  · exact ptake_no w p bag F i h hi
  · obtain ⟨k, rfl⟩ := Int.eq_ofNat_of_zero_le (show 0 ≤ i by omega)
    have e : takeB bag (k : Int) = (bag.eraseIdx k, bag.getD k [], 0) := by unfold takeB; rw [there_yes hi, if_pos rfl, Int.toNat_natCast]
    rw [e]
    exact ptake_yes w p bag F k h (by omega)
/-- a member of the bag, where it lies -/
theorem PathAt.get {W : World} {p : Nat} {bag : Bag} {F : Nat → Prop} (h : PathAt W p bag F) {k : Nat} (hk : k < bag.length) :
    ∃ g off d Au du, W.cell? ⟨p, 0, none⟩ = some (.slice (some ⟨g, off, none⟩) bag.length d) ∧ W.cell? ⟨g, off + k, none⟩ = some (.slice Au (bag.getD k []).length du) ∧ Kd.C (Kd.int .u8) W Au (bag.getD k []).length (bag.getD k []) ∧ bag.length ≤ d := by
  obtain ⟨v, vs, hh, ho, he, hp, hkf, hu, hok⟩ := h
  have hbk : bag[k]? = some (bag.getD k []) := by rw [List.getD_eq_getElem?_getD, List.getElem?_eq_getElem hk]; rfl
  have hkv : k < vs.length := by have := he.len; omega
  have hvk := List.getElem?_eq_getElem hkv
  obtain ⟨Au, du, hu1, _, _, hC⟩ := (he.own k _ _ hvk hbk).form
  rcases ho.2 with ⟨_, h0⟩ | ⟨g, off, cap, cur, rfl, _, _, hc, _⟩
  · omega
  · exact ⟨g, off, cap, Au, du, (one_cell hh).1, by rw [← hu1]; exact ho.at hvk, hC, hc⟩
theorem pdbl_nil (w : World) (i : Int) : Calls Try.prog 12 #[.pointer none, .int .i64 i] w fun e w' => e = .returned (.int .i64 6) ∧ w' = w := by
  go_enter Try.func12, Try.ntmps12
  go_wp2_with fail
  refine (there_nil _ i).mono ?_
  rintro e w1 ⟨rfl, rfl⟩
  go_wp2_with fail
  go_ret
  exact ⟨rfl, rfl⟩
set_option maxHeartbeats 1000000 in
theorem pdbl_calls (w : World) (p : Nat) (bag : Bag) (F : Nat → Prop) (i : Int) (h : PathAt w p bag F) :
    Calls Try.prog 12 #[.pointer (some ⟨p, 0, none⟩), .int .i64 i] w (RetP w p F (dblB bag i).1 (dblB bag i).2) := by
  have HT := Aside0.mk h
  by_cases hi : i < 0 ∨ (bag.length : Int) ≤ i
  · have HE := Aside0.mk (there_no (b := bag) hi)
    have HV : Aside0 (dblB bag i = (bag, 4)) := ⟨by unfold dblB; rw [HE.out, if_neg (by decide)]⟩
    clear h hi
    go_enter Try.func12, Try.ntmps12
    go_wp2_with fail
    refine (there_calls _ p bag F i HT.out).mono ?_
    rw [HE.out]
    rintro e w1 ⟨rfl, rfl⟩
    go_wp2_with fail
    go_ret
    rw [HV.out]
    exact retp_same HT.out (Below.refl _ _)
  · have HE := Aside0.mk (there_yes (b := bag) hi)
    obtain ⟨k, rfl⟩ := Int.eq_ofNat_of_zero_le (show 0 ≤ i by omega)
    have HV : Aside0 (dblB bag (k : Int) = sendB bag (bag.getD k [])) := ⟨by unfold dblB; rw [HE.out, if_pos rfl, Int.toNat_natCast]⟩
    have hk : k < bag.length := by omega
    have hl : bag.length ≤ 256 := h.is.2.2.1
    have HG := Aside0.mk (Bag.get_ok h.is.2.2 k).2
    obtain ⟨g, off, d, Au, du, c0, c1, hC, hd⟩ := h.get hk
    have HC := Aside0.mk hC
    obtain ⟨L, hL⟩ : ∃ L, L = (bag.getD k []).length := ⟨_, rfl⟩
    have HLL := Aside0.mk hL
    rw [← hL] at c1
    obtain ⟨n, hn⟩ : ∃ n, n = bag.length := ⟨_, rfl⟩
    rw [← hn] at c0 hk hd
    have i1 : (k : Int) < (n : Int) := by omega
    clear h hi hC hL hn hl hk
    go_enter Try.func12, Try.ntmps12
    go_wp2_with fail
    refine (there_calls _ p bag F k HT.out).mono ?_
    rw [HE.out]
    rintro e w1 ⟨rfl, rfl⟩
    go_wp2_with fail
    rw [HLL.out]
    refine (psend_calls _ p bag F Au du (bag.getD k []) HT.out HC.out HG.out).mono ?_
    rw [← HV.out]
    rintro e w2 ⟨rfl, h2, h3⟩
    have H2 := Aside0.mk (And.intro h2 h3)
    clear h2 h3
    go_wp2_with fail
    go_ret
    exact ⟨rfl, H2.out.1, H2.out.2⟩
theorem pturn_nil (w : World) (i a : Int) (y : Int) : Calls Try.prog 13 #[.pointer none, .int .i64 i, .int .i64 a, .int .u8 y] w fun e w' => e = .returned (.int .i64 6) ∧ w' = w := by
  go_enter Try.func13, Try.ntmps13
  go_wp2_with fail
  refine (there_nil _ i).mono ?_
  rintro e w1 ⟨rfl, rfl⟩
  go_wp2_with fail
  go_ret
  exact ⟨rfl, rfl⟩
theorem QB.set {W : World} {base g off n c : Nat} {xs : List Int} (h : QB W base (.slice (some ⟨g, off, none⟩) n c) xs) {j : Nat} (hj : j < xs.length) (y : Int) : W.cell? ⟨g, off + j, none⟩ = some (.int .u8 (xs.getD j 0)) ∧ W.frozen? ⟨g, off + j, none⟩ = false ∧ QB (W.setCell ⟨g, off + j, none⟩ (.int .u8 y)) base (.slice (some ⟨g, off, none⟩) n c) (xs.set j y) := by
  have hcell : W.cell? ⟨g, off + j, none⟩ = some (.int .u8 (xs.getD j 0)) := by
    obtain ⟨A, c', e, _, _, hr⟩ := h.form
    injection e with e1 e2 e3
    subst e1
    obtain ⟨ad, e, hc⟩ := C_byte hr hj
    injection e with e
    rw [← e, Addr.add_lit] at hc
    exact hc
  rcases h.2 with ⟨e, _⟩ | ⟨g', off', cap, cur, e, hb, hh, hc, hm, h6, h7⟩
  · cases e
  · obtain ⟨⟨rfl, rfl⟩, rfl, rfl⟩ : (g = g' ∧ off = off') ∧ n = xs.length ∧ c = cap := by simpa using e
    refine ⟨hcell, by simp [World.frozen?, hh], ?_⟩
    unfold QB
    rw [List.length_set]
    refine ⟨by simp [nums], .inr ⟨g, off, c, _, rfl, hb, heap_set _ hh, hc, hm, by simpa using h6, ?_⟩⟩
    have e1 : (cur.setIfInBounds (off + j) (.int .u8 y)).toList = cur.toList.set (off + j) (.int .u8 y) := by simp
    have e2 : nums .u8 (xs.set j y) = (nums .u8 xs).set j (.int .u8 y) := by simp [nums, List.map_set]
    rw [e1, e2, ← h7, List.drop_set, if_neg (by omega), Nat.add_sub_cancel_left, List.take_set]
theorem Els.put {W W' : World} {vs : List Value} {bag : Bag} (h : Els W vs bag) {k : Nat} {u : Value} {l : List Int} (hk : vs[k]? = some u) (hb : ∀ k', u.ownBlock ≠ some k' → k' < W.heap.size → W'.heap[k']? = W.heap[k']?) (hq : QB W' 0 u l) : Els W' vs (bag.set k l) := by
  refine ⟨by rw [List.length_set]; exact h.len, fun j x l' hx hl' => ?_, h.apart⟩
  rw [List.getElem?_set] at hl'
  by_cases e : k = j
  · subst e
    rw [if_pos rfl] at hl'
    split at hl'
    · injection hl' with hl'
      rw [hk] at hx
      injection hx with hx
      subst hl' hx
      exact hq
    · cases hl'
  · rw [if_neg e] at hl'
    have hqj := h.own j x l' hx hl'
    refine hqj.move (fun k' e' => hb k' (fun e2 => ?_) (hqj.block e').2)
    have hp := List.pairwise_iff_getElem.1 h.apart
    have hkl := (List.getElem?_eq_some_iff.1 hk)
    have hjl := (List.getElem?_eq_some_iff.1 hx)
    rcases Nat.lt_or_gt_of_ne e with h1 | h1
    · exact hp k j hkl.1 hjl.1 h1 k' (by rw [hkl.2]; exact e2) (by rw [hjl.2]; exact e')
    · exact hp j k hjl.1 hkl.1 h1 k' (by rw [hjl.2]; exact e') (by rw [hkl.2]; exact e2)
/-- what Turn leaves -/
theorem turn_close {w : World} {p : Nat} {bag : Bag} {F : Nat → Prop} {v : Value} {vs : List Value} {k g off du : Nat} {at_ : Nat} {y : Int} (hh : w.heap[p]? = some (.cells #[v] 53 (0, 0))) (ho : OwnAt w 0 28 1 v bag.length vs) (he : Els w vs bag) (hp : F p) (hk : ∀ k, v.ownBlock = some k → F k) (hu : ∀ u ∈ vs, ∀ k, u.ownBlock = some k → F k) (hok : bag.ok)
    (hkl : k < bag.length) (huk : vs[k]? = some (.slice (some ⟨g, off, none⟩) (bag.getD k []).length du)) (ha : at_ < (bag.getD k []).length) (hy : Byte y) :
    RetP w p F (bag.set k (turnL (bag.getD k []) at_ y)) 0 (.returned (.int .i64 0)) (w.setCell ⟨g, off + at_, none⟩ (.int .u8 ((((bag.getD k []).getD at_ 0).toNat ^^^ y.toNat : Nat) : Int))) := by
  have hbk : bag[k]? = some (bag.getD k []) := by rw [List.getD_eq_getElem?_getD, List.getElem?_eq_getElem hkl]; rfl
  have hqk := he.own k _ _ huk hbk
  obtain ⟨_, _, hq2⟩ := hqk.set ha ((((bag.getD k []).getD at_ 0).toNat ^^^ y.toNat : Nat) : Int)
  have hs := grown_set w g (off + at_) (.int .u8 ((((bag.getD k []).getD at_ 0).toNat ^^^ y.toNat : Nat) : Int))
  have hgp : g ≠ p := OwnAt.ne hqk (k := g) rfl hh (by decide)
  have hgv : v.ownBlock ≠ some g := fun e => by
    obtain ⟨cur, hc⟩ := ho.type e
    obtain ⟨cur2, hc2⟩ := OwnAt.type hqk (k := g) rfl
    rw [hc] at hc2
    injection hc2 with hc2
    injection hc2 with _ hc2
    exact absurd hc2 (by decide)
  have hpl : p < w.heap.size := (Array.getElem?_eq_some_iff.1 hh).1
  refine ⟨rfl, ⟨v, vs, (hs.block p hpl (fun e => hgp (by injection e with e; exact e.symm))).trans hh, ?_, he.put huk (fun k' hne hlt => hs.block k' hlt (fun e => hne (by rw [e]; rfl))) hq2, .inl hp, fun k e => .inl (hk k e), fun x hx k e => .inl (hu x hx k e), Bag.ok_set hok k ?_ ?_⟩, Kept.of_grown hs (fun k' e => by injection e with e; subst e; exact hu _ (List.mem_of_getElem? huk) g rfl)⟩
  · rw [List.length_set]
    exact ho.move (fun k e => hs.block k (ho.block e).2 (fun e2 => hgv (by rw [e, e2])))
  · unfold turnL; rw [List.length_set]; exact (Bag.get_ok hok k).1
  · exact turnL_bytes (Bag.get_ok hok k).2 at_ hy
set_option maxHeartbeats 2000000 in
theorem pturn_calls (w : World) (p : Nat) (bag : Bag) (F : Nat → Prop) (i a y : Int) (h : PathAt w p bag F) (hy : Byte y) :
    Calls Try.prog 13 #[.pointer (some ⟨p, 0, none⟩), .int .i64 i, .int .i64 a, .int .u8 y] w (fun e w' => RetP w p F (turnB bag i a y).1 (turnB bag i a y).2 e w' ∧ w'.heap.size = w.heap.size) := by
  have HT := Aside0.mk h
  have HY := Aside0.mk hy
  by_cases hi : i < 0 ∨ (bag.length : Int) ≤ i
  · have HE := Aside0.mk (there_no (b := bag) hi)
    have HV : Aside0 (turnB bag i a y = (bag, 4)) := ⟨by unfold turnB; rw [HE.out, if_neg (by decide)]⟩
    clear h hi hy
    go_enter Try.func13, Try.ntmps13
    go_wp2_with fail
    refine (there_calls _ p bag F i HT.out).mono ?_
    rw [HE.out]
    rintro e w1 ⟨rfl, rfl⟩
    go_wp2_with fail
    go_ret
    rw [HV.out]
    exact ⟨retp_same HT.out (Below.refl _ _), rfl⟩
  · have HE := Aside0.mk (there_yes (b := bag) hi)
    obtain ⟨k, rfl⟩ := Int.eq_ofNat_of_zero_le (show 0 ≤ i by omega)
    have hk : k < bag.length := by omega
    have hl : bag.length ≤ 256 := h.is.2.2.1
    obtain ⟨g, off, d, Au, du, c0, c1, hC, hd⟩ := h.get hk
    have hgo := Bag.get_ok h.is.2.2 k
    obtain ⟨n, hn⟩ : ∃ n, n = bag.length := ⟨_, rfl⟩
    obtain ⟨L, hL⟩ : ∃ L, L = (bag.getD k []).length := ⟨_, rfl⟩
    have HLL := Aside0.mk hL
    have i1 : (k : Int) < (n : Int) := by omega
    have hL5 : L ≤ 512 := by rw [hL]; exact hgo.1
    by_cases ha : a < 0 ∨ (L : Int) ≤ a
    · have HV : Aside0 (turnB bag (k : Int) a y = (bag, 1)) := ⟨by unfold turnB; rw [HE.out, if_pos rfl, Int.toNat_natCast, if_pos (by rw [← hL]; exact ha)]⟩
      have ha' : a < 0 ∨ (0 ≤ a ∧ (L : Int) ≤ a) := by omega
      rw [← hL] at c1
      rw [← hn] at c0 hk hd
      clear h hi hC hL hn hl hk ha hy hgo
      rcases ha' with ha | ⟨ha, ha2⟩
      all_goals
        go_enter Try.func13, Try.ntmps13
        go_wp2_with fail
        refine (there_calls _ p bag F k HT.out).mono ?_
        rw [HE.out]
        rintro e w1 ⟨rfl, rfl⟩
        go_wp2_with fail
        go_ret
        rw [HV.out]
        exact ⟨retp_same HT.out (Below.refl _ _), rfl⟩
    · obtain ⟨j, rfl⟩ := Int.eq_ofNat_of_zero_le (show 0 ≤ a by omega)
      have hj : j < (bag.getD k []).length := by omega
      have HV : Aside0 (turnB bag (k : Int) (j : Int) y = (bag.set k (turnL (bag.getD k []) j y), 0)) := ⟨by unfold turnB; rw [HE.out, if_pos rfl, Int.toNat_natCast, if_neg (by rw [← hL]; exact ha), Int.toNat_natCast]⟩
      obtain ⟨v, vs, hh, ho, he, hp, hkf, hu, hok⟩ := h
      have hbk : bag[k]? = some (bag.getD k []) := by rw [List.getD_eq_getElem?_getD, List.getElem?_eq_getElem (by omega)]; rfl
      have hkv : k < vs.length := by have := he.len; omega
      have hvk := List.getElem?_eq_getElem hkv
      have hqk := he.own k _ _ hvk hbk
      obtain ⟨A2, d2, hu1, hd2, _, _⟩ := hqk.form
      rw [hu1] at hvk hqk
      obtain ⟨_, g2, off2, rfl, _⟩ := hqk.pos (by omega)
      rcases ho.2 with ⟨_, h0⟩ | ⟨g0, off0, cap0, cur0, rfl, _, _, hc0, _⟩
      · omega
      have x0 := (one_cell hh).1
      have x1 := ho.at hvk
      obtain ⟨x2, f2, _⟩ := hqk.set hj 0
      have hby := hgo.2.getD j
      obtain ⟨x, hx⟩ : ∃ x, x = (bag.getD k []).getD j 0 := ⟨_, rfl⟩
      have HX := Aside0.mk hx
      rw [← hx] at x2 hby
      obtain ⟨hx0, hx1⟩ := hby
      obtain ⟨hy0, hy1⟩ := hy
      have hxor := u8_xor hx0 hx1 hy0 hy1
      have HA := Aside0.mk (turn_close (y := y) hh ho he hp hkf hu hok (by omega) hvk hj HY.out)
      rw [← hL] at x1 hd2
      rw [← hn] at x0 hk hd hc0
      have j1 : (j : Int) < (L : Int) := by omega
      rw [← hx] at HA
      clear c0 c1 hi hC hL hn hl hk ha hgo hh ho he hp hkf hu hok hbk hkv hvk hqk hu1 hx
      go_enter Try.func13, Try.ntmps13
      go_wp2_with fail
      refine (there_calls _ p bag F k HT.out).mono ?_
      rw [HE.out]
      rintro e w1 ⟨rfl, rfl⟩
      go_wp2_with fail
      go_ret
      rw [HV.out]
      exact ⟨HA.out, by simp [World.setCell]⟩
end Go.Proofs.YtpkclecgaheplaaR.Oct
