import Derived.Test.YtilogpjbdemceaaPathN
/- The document's path: Has, Send, Double, Take, Turn. -/
namespace Go.Proofs.Ytilogpjbdemceaa.Oct
open Go.RowKit Go.Proofs.YtilogpjbdemceaaW.PrintWords Go.Proofs.Ytilogpjbdemceaa.M
set_option linter.unusedVariables false
set_option linter.unusedSimpArgs false
theorem RPathAt.row {W : World} {p : Nat} {bag : Bag} {F : Nat → Prop} (h : RPathAt W p bag F) : ∃ A c, bag.length ≤ c ∧ W.heap[p]? = some (.cells #[.slice A bag.length c] 49 (0, 0)) := by
  obtain ⟨v, vs, hh, ho, _⟩ := h
  obtain ⟨A, c, rfl, hc, _⟩ := ho.form
  exact ⟨A, c, hc, hh⟩
theorem rhas_no (w : World) (p : Nat) (bag : Bag) (F : Nat → Prop) (i : Int) (h : RPathAt w p bag F) (hi : i < 0 ∨ (bag.length : Int) ≤ i) : Calls Try.prog 44 #[.pointer (some ⟨p, 0, none⟩), .int .i64 i] w fun e w' => e = .returned (.bool false) ∧ w' = w := by
  obtain ⟨A, c, hc, hh⟩ := h.row
  obtain ⟨c0, f0⟩ := one_cell hh
  have hl : bag.length ≤ 256 := h.is.2.2.1
  clear h hh
  have hcase : ¬ 0 ≤ i ∨ (0 ≤ i ∧ ¬ i < (bag.length : Int)) := by omega
  rcases hcase with h1 | ⟨h1, h2⟩
  · clear hi
    go_enter Try.func44, Try.ntmps44
    go_wp2
    go_ret
    exact ⟨rfl, rfl⟩
  · clear hi
    go_enter Try.func44, Try.ntmps44
    go_wp2
    go_ret
    exact ⟨rfl, rfl⟩
theorem rhas_yes (w : World) (p : Nat) (bag : Bag) (F : Nat → Prop) (k : Nat) (h : RPathAt w p bag F) (hk : k < bag.length) : Calls Try.prog 44 #[.pointer (some ⟨p, 0, none⟩), .int .i64 k] w fun e w' => e = .returned (.bool true) ∧ w' = w := by
  obtain ⟨A, c, hc, hh⟩ := h.row
  obtain ⟨c0, f0⟩ := one_cell hh
  have h1 : (0 : Int) ≤ (k : Int) := by omega
  have h2 : (k : Int) < (bag.length : Int) := by omega
  clear h hh hk
  go_enter Try.func44, Try.ntmps44
  go_wp2
  go_ret
  exact ⟨rfl, rfl⟩
attribute [local go_sem ↓] Go.wp_at_zero Go.wp_at_succ
set_option maxRecDepth 20000 in
set_option maxHeartbeats 8000000 in
theorem rsend_calls (w : World) (p : Nat) (bag : Bag) (F : Nat → Prop) (A : Option Addr) (c : Nat) (ys : List Int) (h : RPathAt w p bag F) (hy : Kd.C (Kd.int .u8) w A ys.length ys) (hb : Bytes ys) :
    Calls Try.prog 27 #[.pointer (some ⟨p, 0, none⟩), .slice A ys.length c] w (RetRP w p F (sendB bag ys).1 (sendB bag ys).2) := by
  have HT := Aside0.mk h
  have hyl : ys.length ≤ 9223372036854775807 := hy.2.1
  have HY := Aside0.mk hy
  by_cases h1 : 512 < ys.length
  · have HV : Aside0 (sendB bag ys = (bag, 2)) := ⟨by unfold sendB; rw [if_pos h1]⟩
    have h1' : 512 < (ys.length : Int) := by omega
    clear h hy h1
    go_enter Try.func27, Try.ntmps27
    go_wp2
    go_ret
    rw [HV.out]
    exact retrp_same HT.out (Below.refl _ _)
  obtain ⟨v, vs, hh, ho, he, hp, hk, hu, hok⟩ := h
  have hl : bag.length ≤ 256 := hok.1
  have HA := Aside0.mk (And.intro hh (And.intro ho (And.intro he (And.intro hp (And.intro hk hu)))))
  obtain ⟨B, d, rfl, hd, hm⟩ := ho.form
  obtain ⟨c0, f0⟩ := one_cell hh
  have h1' : (ys.length : Int) ≤ 512 := by omega
  by_cases h2 : 256 ≤ bag.length
  · have HV : Aside0 (sendB bag ys = (bag, 5)) := ⟨by unfold sendB; rw [if_neg h1, if_pos h2]⟩
    have h2' : 256 ≤ (bag.length : Int) := by omega
    clear hh ho he hp hk hu hok hy h1 h2 hb
    go_enter Try.func27, Try.ntmps27
    go_wp2
    go_ret
    rw [HV.out]
    exact retrp_same HT.out (Below.refl _ _)
  · have HV : Aside0 (sendB bag ys = (bag ++ [ys], 0)) := ⟨by unfold sendB; rw [if_neg h1, if_neg h2]⟩
    have HOK2 := Aside0.mk (Bag.ok_snoc hok (by omega) (ys := ys) (by omega) hb)
    have h2' : (bag.length : Int) < 256 := by omega
    have HLY : Aside0 (ys.length ≤ 140737488355328) := ⟨by omega⟩
    have HLB : Aside0 (bag.length ≤ 1000000) := ⟨by omega⟩
    have HPN : Aside0 (∀ W, Below w.heap.size w W → W.cell? ⟨p, 0, none⟩ = some (.slice B bag.length d)) := ⟨fun W hW => (hW.cell (World.block_lt_of_cell? _ _ c0)).trans c0⟩
    clear hh ho he hp hk hu hok hy h1 h2 hb
    go_enter Try.func27, Try.ntmps27
    go_wp2_with fail
    go_region_law
      (first
       | (refine step_call (by rfl) 26 #[.tmp 19] #[26] (by rfl) #[.slice A ys.length c] (by rfl) Try.f26 Try.func26 (by kernel_rfl) (by kernel_rfl) ?_; refine (copy_calls _ A c ys (Kd.C_below HY.out (by first | exact Below.refl _ _ | exact below_drew (Below.refl _ _))) HLY.out).mono ?_; rintro e wc ⟨u, rfl, hou, hbc⟩; obtain ⟨A2, c2, rfl, _⟩ := hou.reads; have HOU := Aside0.mk hou; have HBC : Aside0 (Below w.heap.size w wc) := ⟨by first | exact hbc | exact (below_drew (Below.refl w.heap.size w)).trans hbc⟩; have x0 := HPN.out _ HBC.out; have x1 := HPN.out _ (below_alloc HBC.out (.cells #[.slice A2 ys.length c2] 26)); clear hou hbc; refine ⟨_, rfl, ?_⟩)
       | (refine step_row rfl (.tmp 18) (.tmp 21) rfl (.slice B bag.length d) vs bag.length (.slice A2 ys.length c2) wc.heap.size rfl rfl (by first | exact (HA.out.2.1.move (fun k e => HBC.out.block k (HA.out.2.1.block e).2)).move (fun k e => (below_alloc (Below.refl _ _) _).block k (Nat.lt_of_lt_of_le (HA.out.2.1.block e).2 HBC.out.size)) | exact (HA.out.2.1.move (fun k e => HBC.out.block k (HA.out.2.1.block e).2)).move (fun k e => (below_drew (below_alloc (Below.refl _ _) _)).block k (Nat.lt_of_lt_of_le (HA.out.2.1.block e).2 HBC.out.size))) (by exact heap_alloc_new wc _) rfl HLB.out ?_; intro v1 w1 ho1 hg1 hn1; obtain ⟨A1, d1, rfl, _⟩ := ho1.form; have HG0 : Aside0 (wc.grownBy w1 (Value.slice B bag.length d).ownBlock) := ⟨by first | exact grown_below (below_alloc (Below.refl _ _) _) hg1 | exact grown_below (below_drew (below_alloc (Below.refl _ _) _)) hg1⟩; have hw1 := rpath_cell HA.out.1 HA.out.2.1 HBC.out HG0.out; obtain ⟨e0, g0⟩ := one_cell hw1; have HO1 := Aside0.mk ho1; have HN1 : Aside0 ((Value.slice A1 (bag.length + 1) d1).ownBlock = (Value.slice B bag.length d).ownBlock ∨ ∃ b, (Value.slice A1 (bag.length + 1) d1).ownBlock = some b ∧ wc.heap.size ≤ b) := ⟨hn1.imp id (fun ⟨b, e, h⟩ => ⟨b, e, Nat.le_trans (by simp) h⟩)⟩; clear ho1 hg1 hn1 hw1))
    all_goals
      go_wp2_with fail
      go_ret
      rw [HV.out]
      exact rsend_close HA.out.1 HA.out.2.1 HA.out.2.2.1 HA.out.2.2.2.1 HA.out.2.2.2.2.1 HA.out.2.2.2.2.2 HOK2.out HBC.out (HOU.out.lower (by first | exact Nat.le_refl _ | simp)) HO1.out HG0.out HN1.out
set_option maxHeartbeats 1000000 in
theorem rdbl_calls (w : World) (p : Nat) (bag : Bag) (F : Nat → Prop) (i : Int) (h : RPathAt w p bag F) :
    Calls Try.prog 29 #[.pointer (some ⟨p, 0, none⟩), .int .i64 i] w (RetRP w p F (dblB bag i).1 (dblB bag i).2) := by
  have HT := Aside0.mk h
  by_cases hi : i < 0 ∨ (bag.length : Int) ≤ i
  · have HV : Aside0 (dblB bag i = (bag, 4)) := ⟨by unfold dblB; rw [there_no hi, if_neg (by decide)]⟩
    have HI := Aside0.mk hi
    clear h hi
    go_enter Try.func29, Try.ntmps29
    go_wp2_with fail
    refine (rhas_no _ p bag F i HT.out HI.out).mono ?_
    rintro e w1 ⟨rfl, rfl⟩
    go_wp2_with fail
    go_ret
    rw [HV.out]
    exact retrp_same HT.out (Below.refl _ _)
  · obtain ⟨k, rfl⟩ := Int.eq_ofNat_of_zero_le (show 0 ≤ i by omega)
    have HV : Aside0 (dblB bag (k : Int) = sendB bag (bag.getD k [])) := ⟨by unfold dblB; rw [there_yes hi, if_pos rfl, Int.toNat_natCast]⟩
    have hk : k < bag.length := by omega
    have HK := Aside0.mk hk
    have hl : bag.length ≤ 256 := h.is.2.2.1
    have HG := Aside0.mk (Bag.get_ok h.is.2.2 k).2
    obtain ⟨g, off, d, Au, du, c0, c1, hC, hd⟩ := h.get hk
    have HC := Aside0.mk hC
    obtain ⟨L, hL⟩ : ∃ L, L = (bag.getD k []).length := ⟨_, rfl⟩
    have HLL := Aside0.mk hL
    rw [← hL] at c1
    obtain ⟨n, hn⟩ : ∃ n, n = bag.length := ⟨_, rfl⟩
    rw [← hn] at c0 hk hd
    have i1 : (k : Int) < (n : Int) := by omega
    clear h hi hC hL hn hl hk
    go_enter Try.func29, Try.ntmps29
    go_wp2_with fail
    refine (rhas_yes _ p bag F k HT.out HK.out).mono ?_
    rintro e w1 ⟨rfl, rfl⟩
    go_wp2_with fail
    rw [HLL.out]
    refine (rsend_calls _ p bag F Au du (bag.getD k []) HT.out HC.out HG.out).mono ?_
    rw [← HV.out]
    rintro e w2 ⟨rfl, h2, h3⟩
    have H2 := Aside0.mk (And.intro h2 h3)
    clear h2 h3
    go_wp2_with fail
    go_ret
    exact ⟨rfl, H2.out.1, H2.out.2⟩
set_option maxHeartbeats 4000000 in
theorem rturn_calls (w : World) (p : Nat) (bag : Bag) (F : Nat → Prop) (i a y : Int) (h : RPathAt w p bag F) (hy : Byte y) :
    Calls Try.prog 31 #[.pointer (some ⟨p, 0, none⟩), .int .i64 i, .int .i64 a, .int .u8 y] w (RetRP w p F (turnB bag i a y).1 (turnB bag i a y).2) := by
  have HT := Aside0.mk h
  have HY := Aside0.mk hy
  by_cases hi : i < 0 ∨ (bag.length : Int) ≤ i
  · have HV : Aside0 (turnB bag i a y = (bag, 4)) := ⟨by unfold turnB; rw [there_no hi, if_neg (by decide)]⟩
    have HI := Aside0.mk hi
    clear h hi hy
    go_enter Try.func31, Try.ntmps31
    go_wp2_with fail
    refine (rhas_no _ p bag F i HT.out HI.out).mono ?_
    rintro e w1 ⟨rfl, rfl⟩
    go_wp2_with fail
    go_ret
    rw [HV.out]
    exact retrp_same HT.out (Below.refl _ _)
  · have HE := Aside0.mk (there_yes (b := bag) hi)
    obtain ⟨k, rfl⟩ := Int.eq_ofNat_of_zero_le (show 0 ≤ i by omega)
    have hk : k < bag.length := by omega
    have HK := Aside0.mk hk
    have hl : bag.length ≤ 256 := h.is.2.2.1
    obtain ⟨g, off, d, Au, du, c0, c1, hC, hd⟩ := h.get hk
    have hgo := Bag.get_ok h.is.2.2 k
    obtain ⟨n, hn⟩ : ∃ n, n = bag.length := ⟨_, rfl⟩
    obtain ⟨L, hL⟩ : ∃ L, L = (bag.getD k []).length := ⟨_, rfl⟩
    have HLL := Aside0.mk hL
    have i1 : (k : Int) < (n : Int) := by omega
    have hL5 : L ≤ 512 := by rw [hL]; exact hgo.1
    by_cases ha : a < 0 ∨ (L : Int) ≤ a
    · have HV : Aside0 (turnB bag (k : Int) a y = (bag, 1)) := ⟨by unfold turnB; rw [HE.out, if_pos rfl, Int.toNat_natCast, if_pos (by rw [← hL]; exact ha)]⟩
      have ha' : a < 0 ∨ (0 ≤ a ∧ (L : Int) ≤ a) := by omega
      rw [← hL] at c1
      rw [← hn] at c0 hk hd
      clear h hi hC hL hn hl hk ha hy hgo
      rcases ha' with ha | ⟨ha, ha2⟩
      all_goals
        go_enter Try.func31, Try.ntmps31
        go_wp2_with fail
        refine (rhas_yes _ p bag F k HT.out HK.out).mono ?_
        rintro e w1 ⟨rfl, rfl⟩
        go_wp2_with fail
        go_ret
        rw [HV.out]
        exact retrp_same HT.out (Below.refl _ _)
    · obtain ⟨j, rfl⟩ := Int.eq_ofNat_of_zero_le (show 0 ≤ a by omega)
      have hj : j < (bag.getD k []).length := by omega
      have HV : Aside0 (turnB bag (k : Int) (j : Int) y = (bag.set k (turnL (bag.getD k []) j y), 0)) := ⟨by unfold turnB; rw [HE.out, if_pos rfl, Int.toNat_natCast, if_neg (by rw [← hL]; exact ha), Int.toNat_natCast]⟩
      obtain ⟨v, vs, hh, ho, he, hp, hkf, hu, hok⟩ := h
      have hbk : bag[k]? = some (bag.getD k []) := by rw [List.getD_eq_getElem?_getD, List.getElem?_eq_getElem (by omega)]; rfl
      have hkv : k < vs.length := by have := he.len; omega
      have hvk := List.getElem?_eq_getElem hkv
      have hqk := he.own k _ _ hvk hbk
      obtain ⟨A2, d2, hu1, hd2, _, _⟩ := hqk.form
      rw [hu1] at hvk hqk
      obtain ⟨_, g2, off2, rfl, _⟩ := hqk.pos (by omega)
      rcases ho.2 with ⟨_, h0⟩ | ⟨g0, off0, cap0, cur0, rfl, _, _, hc0, _⟩
      · omega
      have x0 := (one_cell hh).1
      have x1 := ho.at hvk
      obtain ⟨x2, f2, _⟩ := hqk.set hj 0
      have hby := hgo.2.getD j
      obtain ⟨x, hx⟩ : ∃ x, x = (bag.getD k []).getD j 0 := ⟨_, rfl⟩
      rw [← hx] at x2 hby
      obtain ⟨hx0, hx1⟩ := hby
      obtain ⟨hy0, hy1⟩ := hy
      have hxor := u8_xor hx0 hx1 hy0 hy1
      have hbd : Below w.heap.size w w.drew := below_drew (Below.refl _ _)
      have HA := Aside0.mk (rturn_close (w := w.drew) (y := y) (blk_keep hh hbd) (ho.move (fun k e => hbd.block k (ho.block e).2)) (he.move (fun u hm k e => by obtain ⟨l, hq⟩ := he.mem hm; exact hbd.block k (hq.block e).2)) hp hkf hu hok (by omega) hvk hj HY.out)
      have HKD : Aside0 (Kept w F w.drew) := ⟨Kept.of_below F hbd⟩
      rw [← hL] at x1 hd2
      rw [← hn] at x0 hk hd hc0
      have j1 : (j : Int) < (L : Int) := by omega
      rw [← hx] at HA
      clear c0 c1 hi hC hL hn hl hk ha hgo hh ho he hp hkf hu hok hbk hkv hvk hqk hu1 hx hbd
      go_enter Try.func31, Try.ntmps31
      go_wp2_with fail
      refine (rhas_yes _ p bag F k HT.out HK.out).mono ?_
      rintro e w1 ⟨rfl, rfl⟩
      go_wp2_with fail
      go_still_tail 21, (by kernel_rfl)
      go_wp2_with fail
      go_ret
      rw [HV.out]
      obtain ⟨r1, r2, r3⟩ := HA.out
      exact ⟨rfl, r2.mono (fun k h _ => h.imp id id), HKD.out.trans r3 (fun _ _ h => h)⟩
end Go.Proofs.Ytilogpjbdemceaa.Oct
