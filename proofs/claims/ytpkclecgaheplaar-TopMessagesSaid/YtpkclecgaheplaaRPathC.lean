import Derived.Test.YtpkclecgaheplaaRPathB
namespace Go.Proofs.YtpkclecgaheplaaR.Oct
open Go.RowKit Go.Proofs.YtpkclecgaheplaaRW.PrintWords Go.Proofs.YtpkclecgaheplaaR.M
set_option linter.unusedVariables false
set_option linter.unusedSimpArgs false
theorem OwnAt.front {W : World} {base : Nat} {e : TypeId} {g off n c : Nat} {xs : List Value} (h : OwnAt W base e 1 (.slice (some ⟨g, off, none⟩) n c) n xs) {k : Nat} (hk : k ≤ n) : OwnAt W base e 1 (.slice (some ⟨g, off, none⟩) k k) k (xs.take k) := by
  have hl := h.1
  rcases h.2 with ⟨e1, _⟩ | ⟨g', off', cap, cur, e1, hb, hh, hc, hm, h6, h7⟩
  · cases e1
  · injection e1 with e1 e2 e3
    obtain ⟨rfl, rfl⟩ : g = g' ∧ off = off' := by simpa using e1
    subst e3
    refine ⟨by rw [List.length_take]; omega, .inr ⟨g, off, k, cur, rfl, hb, hh, Nat.le_refl _, by omega, by omega, ?_⟩⟩
    rw [← h7, List.take_take, Nat.min_eq_left (by omega), Nat.mul_one]
theorem OwnAt.at {W : World} {base : Nat} {e : TypeId} {g off n c : Nat} {xs : List Value} (h : OwnAt W base e 1 (.slice (some ⟨g, off, none⟩) n c) n xs) {k : Nat} {u : Value} (hk : xs[k]? = some u) : W.cell? ⟨g, off + k, none⟩ = some u := by
  obtain ⟨ad, e1, hc⟩ := h.cell hk
  injection e1 with e1
  rw [← e1, Addr.add_lit] at hc
  exact hc
theorem Els.erase {W : World} {vs : List Value} {bag : Bag} (h : Els W vs bag) (k : Nat) : Els W (vs.eraseIdx k) (bag.eraseIdx k) := by
  refine ⟨by rw [List.length_eraseIdx, List.length_eraseIdx, h.len], fun j u l hu hl => ?_, h.apart.sublist (List.eraseIdx_sublist _ _)⟩
  rw [List.getElem?_eraseIdx] at hu hl
  split at hu
  · rename_i hj
    rw [if_pos hj] at hl
    exact h.own j u l hu hl
  · rename_i hj
    rw [if_neg hj] at hl
    exact h.own (j + 1) u l hu hl
def RetTk (W : World) (p : Nat) (F : Nat → Prop) (r : Bag × List Int × Int) (e : Ending) (W' : World) : Prop :=
  ∃ A d, e = .returned (.tuple #[.slice A r.2.1.length d, .int .i64 r.2.2]) ∧ QB W' 0 (.slice A r.2.1.length d) r.2.1 ∧ (∀ k, (Value.slice A r.2.1.length d).ownBlock = some k → F k) ∧ PathAt W' p r.1 (New W F) ∧ Kept W F W'
theorem rettk_no {w w' : World} {p : Nat} {F : Nat → Prop} {bag : Bag} {i : Int} (h : PathAt w p bag F) (hb : Below w.heap.size w w') (ht : takeB bag i = (bag, [], 4)) : RetTk w p F (takeB bag i) (.returned (.tuple #[.slice none 0 0, .int .i64 4])) w' := by
  rw [ht]
  exact ⟨none, 0, rfl, QB.nil _ _, fun k e => (nomatch e), (h.below hb).mono (fun k hk _ => .inl hk), Kept.of_below _ hb⟩
/-- what Take leaves behind its store -/
theorem take_close {w w0 w1 : World} {p : Nat} {bag : Bag} {F : Nat → Prop} {v v1 : Value} {vs : List Value} {k m : Nat} {Au : Option Addr} {d : Nat} (hh : w.heap[p]? = some (.cells #[v] 53 (0, 0))) (ho : OwnAt w 0 28 1 v bag.length vs) (he : Els w vs bag) (hp : F p) (hk : ∀ k, v.ownBlock = some k → F k) (hu : ∀ u ∈ vs, ∀ k, u.ownBlock = some k → F k) (hok : bag.ok)
    (hkl : k < bag.length) (hm : k + m = (bag.eraseIdx k).length) (huk : vs[k]? = some (.slice Au (bag.getD k []).length d)) (hb : Below w.heap.size w w0) (h1 : OwnAt w1 0 28 1 v1 (k + m) (vs.take k ++ vs.drop (k + 1))) (hg : w0.grownBy w1 v.ownBlock) (hn : v1.ownBlock = v.ownBlock ∨ ∃ b, v1.ownBlock = some b ∧ w0.heap.size ≤ b) :
    RetTk w p F (bag.eraseIdx k, bag.getD k [], 0) (.returned (.tuple #[.slice Au (bag.getD k []).length d, .int .i64 0])) (w1.setCell ⟨p, 0, none⟩ v1) := by
  have hpl : p < w.heap.size := (Array.getElem?_eq_some_iff.1 hh).1
  have hh1 := path_cell hh ho hb hg
  have hs := grown_set w1 p 0 v1
  have hmv : ∀ x l, QB w 0 x l → ∀ k, x.ownBlock = some k → (w1.setCell ⟨p, 0, none⟩ v1).heap[k]? = w.heap[k]? := fun x l hq k e => by
    have hkl := (hq.block e).2
    have hkp : k ≠ p := OwnAt.ne hq e hh (by decide)
    have hkv : some k ≠ v.ownBlock := fun e2 => by
      obtain ⟨cur, hc⟩ := ho.type e2.symm
      obtain ⟨cur2, hc2⟩ := OwnAt.type hq e
      rw [hc] at hc2
      injection hc2 with hc2
      injection hc2 with _ hc2
      exact absurd hc2 (by decide)
    exact ((hs.block k (Nat.lt_of_lt_of_le (Nat.lt_of_lt_of_le hkl hb.size) hg.size) (fun e => hkp (by injection e))).trans (hg.block k (Nat.lt_of_lt_of_le hkl hb.size) hkv)).trans (hb.block k hkl)
  have hbk : bag[k]? = some (bag.getD k []) := by rw [List.getD_eq_getElem?_getD, List.getElem?_eq_getElem hkl]; rfl
  have hqk := he.own k _ _ huk hbk
  refine ⟨Au, d, rfl, hqk.move (hmv _ _ hqk), fun k e => hu _ (List.mem_of_getElem? huk) k e, ⟨v1, vs.eraseIdx k, heap_set v1 hh1, ?_, (he.erase k).move (fun x hx k' e => ?_), .inl hp, ?_, fun x hx k' e => ?_, Bag.ok_erase hok k⟩, ?_⟩
  · rw [← hm, List.eraseIdx_eq_take_drop_succ]
    refine h1.move (fun k e => hs.block k (h1.block e).2 (fun e2 => ?_))
    injection e2 with e2
    exact h1.ne e hh1 (by decide) e2
  · obtain ⟨l, hq⟩ := he.mem (List.mem_of_mem_eraseIdx hx)
    exact hmv x l hq k' e
  · intro k e
    rcases hn with h | ⟨b, h, hb'⟩
    · rw [h] at e; exact .inl (hk k e)
    · rw [h] at e
      injection e with e
      subst e
      exact .inr (Nat.le_trans hb.size hb')
  · exact .inl (hu x (List.mem_of_mem_eraseIdx hx) k' e)
  · exact ((Kept.of_below F hb).trans (Kept.of_grown (F := F) hg hk) (fun _ _ h => h)).trans (Kept.of_grown (F := F) hs (fun k e => by injection e with e; subst e; exact hp)) (fun _ _ h => h)
theorem ptake_nil (w : World) (i : Int) : Calls Try.prog 9 #[.pointer none, .int .i64 i] w fun e w' => e = .returned (.tuple #[.slice none 0 0, .int .i64 6]) ∧ w' = w := by
  go_enter Try.func9, Try.ntmps9
  go_wp2_with fail
  refine (there_nil _ i).mono ?_
  rintro e w1 ⟨rfl, rfl⟩
  go_wp2_with fail
  go_ret2
  exact ⟨rfl, rfl⟩
theorem ptake_no (w : World) (p : Nat) (bag : Bag) (F : Nat → Prop) (i : Int) (h : PathAt w p bag F) (hi : i < 0 ∨ (bag.length : Int) ≤ i) :
    Calls Try.prog 9 #[.pointer (some ⟨p, 0, none⟩), .int .i64 i] w (RetTk w p F (takeB bag i)) := by
  have HT := Aside0.mk h
  have HE := Aside0.mk (there_no (b := bag) hi)
  have HV : Aside0 (takeB bag i = (bag, [], 4)) := ⟨by unfold takeB; rw [HE.out, if_neg (by decide)]⟩
  clear h hi
  go_enter Try.func9, Try.ntmps9
  go_wp2_with fail
  refine (there_calls _ p bag F i HT.out).mono ?_
  rw [HE.out]
  rintro e w1 ⟨rfl, rfl⟩
  go_wp2_with fail
  go_ret2
  exact rettk_no HT.out (Below.refl _ _) HV.out
attribute [local go_sem ↓] Go.wp_at_zero Go.wp_at_succ
set_option maxRecDepth 20000 in
set_option maxHeartbeats 8000000 in
theorem ptake_yes (w : World) (p : Nat) (bag : Bag) (F : Nat → Prop) (k : Nat) (h : PathAt w p bag F) (hk : k < bag.length) :
    Calls Try.prog 9 #[.pointer (some ⟨p, 0, none⟩), .int .i64 k] w (RetTk w p F (bag.eraseIdx k, bag.getD k [], 0)) := by
  have HT := Aside0.mk h
  have HE := Aside0.mk (there_yes (b := bag) (i := k) (by omega))
  obtain ⟨v, vs, hh, ho, he, hp, hkf, hu, hok⟩ := h
  have hl : bag.length ≤ 256 := hok.1
  have hk0 := hk
  have HA := Aside0.mk (And.intro hh (And.intro ho (And.intro he (And.intro hp (And.intro hkf (And.intro hu hok))))))
  have hvl : vs.length = bag.length := he.len
  have hkv : k < vs.length := by omega
  have hbk : bag[k]? = some (bag.getD k []) := by rw [List.getD_eq_getElem?_getD, List.getElem?_eq_getElem hk]; rfl
  obtain ⟨Au, du, hu1, _, _, _⟩ := (he.own k _ _ (List.getElem?_eq_getElem hkv) hbk).form
  have HUK : Aside0 (vs[k]? = some (.slice Au (bag.getD k []).length du)) := ⟨by rw [← hu1]; exact List.getElem?_eq_getElem hkv⟩
  obtain ⟨B, d, rfl, hd, hm⟩ := ho.form
  rcases ho.2 with ⟨e1, h0⟩ | ⟨g, off, cap, cur, e1, _⟩
  · omega
  injection e1 with e1 _ e3
  subst e1 e3
  obtain ⟨c0, f0⟩ := one_cell hh
  have ck := ho.at HUK.out
  have HFR := Aside0.mk (ho.front (k := k) (by omega))
  have HNW : Aside0 (∀ j u, (vs.drop (k + 1))[j]? = some u → w.cell? ⟨g, off + (k + 1) + j, none⟩ = some u) := ⟨fun j u hj => by
    rw [List.getElem?_drop] at hj
    have := ho.at hj
    rw [show off + (k + 1) + j = off + (k + 1 + j) by omega]
    exact this⟩
  obtain ⟨L, hL⟩ : ∃ L, L = (bag.getD k []).length := ⟨_, rfl⟩
  rw [← hL] at ck
  have HLL := Aside0.mk hL
  obtain ⟨n, hn⟩ : ∃ n, n = bag.length := ⟨_, rfl⟩
  obtain ⟨k1, hk1⟩ : ∃ k1, k1 = k + 1 := ⟨_, rfl⟩
  obtain ⟨m, hm1⟩ : ∃ m, m = n - k1 := ⟨_, rfl⟩
  have HM : Aside0 (k + m = (bag.eraseIdx k).length ∧ (vs.drop (k + 1)).length = m ∧ m + k ≤ 256) := ⟨by rw [List.length_eraseIdx, if_pos hk, List.length_drop]; omega⟩
  have HN := Aside0.mk hn
  rw [← hn] at c0 hk hl hd
  have i0 : (0 : Int) ≤ (k : Int) := by omega
  have i1 : (k : Int) < (n : Int) := by omega
  have i2 : (k : Int) + 1 = (k1 : Int) := by omega
  have i3 : IntKind.i64.wrap ((k : Int) + 1) = (k1 : Int) := by rw [IntWalk.i64_in _ (by omega)]; omega
  have i3' : IntKind.i64.wrap (k1 : Int) = (k1 : Int) := IntWalk.i64_in _ (by omega)
  have i4 : (k1 : Int) ≤ (n : Int) := by omega
  have i5 : (n : Int) ≤ (d : Int) := by omega
  have i6 : (k : Int) ≤ (d : Int) := by omega
  have i7 : (0 : Int) ≤ (k1 : Int) := by omega
  have HK1 := Aside0.mk (And.intro hk1 hm1)
  have HKB := Aside0.mk hk0
  have HONE : Aside0 (∀ u ∈ vs.drop (k + 1), u.oneCell' = true) := ⟨fun u hu' => by
    obtain ⟨l, hq⟩ := HA.out.2.2.1.mem (List.mem_of_mem_drop hu')
    obtain ⟨_, _, rfl, _⟩ := hq.form
    rfl⟩
  obtain ⟨i0', hi0', hz0', hz1', hz2'⟩ := info_parts info_row
  by_cases hcap : d = k1
  · have HM0 : Aside0 (m = 0) := ⟨by omega⟩
    have hn1 : n = k1 := by omega
    subst hcap
    clear hk0 hh ho he hp hkf hu hok hvl hkv hbk hu1 hn hL hk1 hm1 hk hm
    go_enter Try.func9, Try.ntmps9
    go_wp2_with fail
    refine (there_calls _ p bag F k HT.out).mono ?_
    rw [HE.out]
    rintro e w1 ⟨rfl, rfl⟩
    go_wp2_with fail
    go_region_law
      (refine step_append_at _ (by rfl) (.tmp 28) (.tmp 35) 50 (by rfl) 0 28 i0' (.slice none 0 0) 1 24 Try.underlying50 hi0' hz0' hz1' hz2' rfl Nat.zero_lt_one (.slice (some ⟨g, off, none⟩) k k) k (vs.take k) (by rfl) (HFR.out.move (fun k' e' => by first | rfl | exact (below_drew (Below.refl w1.heap.size w1)).block k' (HFR.out.block e').2)) (some ⟨g, off, none⟩) m 0 (vs.drop (k + 1)) (by rw [HM0.out]; rfl) (by rw [HM.out.2.1, Nat.mul_one]) (fun h0 => by have := HM0.out; omega) HONE.out (by have := HM.out.2.2; simp only [maxLen]; omega) (by have := HM.out.2.2; omega) (Nat.zero_le _) ?_; intro v1 w2 ho1 hg1 hn1; obtain ⟨A1, d1, rfl, _⟩ := ho1.form; have hw2 := path_cell (W := w1) HA.out.1 HA.out.2.1 (Below.refl _ _) (by first | exact hg1 | exact grown_below (below_drew (Below.refl _ _)) hg1); obtain ⟨e0, g0⟩ := one_cell hw2; have HO1 := Aside0.mk ho1; have HG1 : Aside0 (w1.grownBy w2 (Value.slice (some ⟨g, off, none⟩) bag.length d).ownBlock) := ⟨by first | exact hg1 | exact grown_below (below_drew (Below.refl _ _)) hg1⟩; have HN1 := Aside0.mk hn1; clear ho1 hg1 hn1 hw2)
    all_goals
      go_wp2_with fail
      go_ret2
      rw [HLL.out]
      exact take_close HA.out.1 HA.out.2.1 HA.out.2.2.1 HA.out.2.2.2.1 HA.out.2.2.2.2.1 HA.out.2.2.2.2.2.1 HA.out.2.2.2.2.2.2 HKB.out HM.out.1 HUK.out (Below.refl _ _) HO1.out HG1.out HN1.out
  · have hcap2 : ¬ k1 = d := fun e => hcap e.symm
    clear hk0 hh ho he hp hkf hu hok hvl hkv hbk hu1 hn hL hk1 hm1 hk hm
    go_enter Try.func9, Try.ntmps9
    go_wp2_with fail
    refine (there_calls _ p bag F k HT.out).mono ?_
    rw [HE.out]
    rintro e w1 ⟨rfl, rfl⟩
    go_wp2_with fail
    go_region_law
      (refine step_append_at _ (by rfl) (.tmp 28) (.tmp 35) 50 (by rfl) 0 28 i0' (.slice none 0 0) 1 24 Try.underlying50 hi0' hz0' hz1' hz2' rfl Nat.zero_lt_one (.slice (some ⟨g, off, none⟩) k k) k (vs.take k) (by rfl) (HFR.out.move (fun k' e' => by first | rfl | exact (below_drew (Below.refl w1.heap.size w1)).block k' (HFR.out.block e').2)) (some ⟨g, off + k1, none⟩) m (d - k1) (vs.drop (k + 1)) (by rw [HK1.out.2]; rfl) (by rw [HM.out.2.1, Nat.mul_one]) (fun _ => ⟨_, rfl, fun j u hj => by rw [Addr.add_lit, HK1.out.1]; first | exact HNW.out j u hj | exact ((below_drew (Below.refl w1.heap.size w1)).cell (World.block_lt_of_cell? _ _ (HNW.out j u hj))).trans (HNW.out j u hj)⟩) HONE.out (by have := HM.out.2.2; simp only [maxLen]; omega) (by have := HM.out.2.2; omega) (Nat.zero_le _) ?_; intro v1 w2 ho1 hg1 hn1; obtain ⟨A1, d1, rfl, _⟩ := ho1.form; have hw2 := path_cell (W := w1) HA.out.1 HA.out.2.1 (Below.refl _ _) (by first | exact hg1 | exact grown_below (below_drew (Below.refl _ _)) hg1); obtain ⟨e0, g0⟩ := one_cell hw2; have HO1 := Aside0.mk ho1; have HG1 : Aside0 (w1.grownBy w2 (Value.slice (some ⟨g, off, none⟩) bag.length d).ownBlock) := ⟨by first | exact hg1 | exact grown_below (below_drew (Below.refl _ _)) hg1⟩; have HN1 := Aside0.mk hn1; clear ho1 hg1 hn1 hw2)
    all_goals
      go_wp2_with fail
      go_ret2
      rw [HLL.out]
      exact take_close HA.out.1 HA.out.2.1 HA.out.2.2.1 HA.out.2.2.2.1 HA.out.2.2.2.2.1 HA.out.2.2.2.2.2.1 HA.out.2.2.2.2.2.2 HKB.out HM.out.1 HUK.out (Below.refl _ _) HO1.out HG1.out HN1.out
end Go.Proofs.YtpkclecgaheplaaR.Oct
