import Derived.Test.YtcnohnieoecpdaaWalAf
import Derived.Test.YtcnohnieoecpdaaWalY
/- The document's Swap. -/
namespace Go.Proofs.Ytcnohnieoecpdaa.Oct
open Go.RowKit Go.Proofs.YtcnohnieoecpdaaW.PrintWords Go.Proofs.Ytcnohnieoecpdaa.M
set_option linter.unusedVariables false
set_option linter.unusedSimpArgs false
/-- the cells of a row of records -/
theorem rec_news {W : World} {A : Option Addr} {n : Nat} {l : List Rc} (h : recK.C W A n l) : ∃ news : List Value, news.length = n * 2 ∧ (0 < n → ∃ a, A = some a ∧ ∀ j u, news[j]? = some u → W.cell? (a.add j) = some u) ∧ (∀ u ∈ news, u.oneCell' = true) ∧
    ∀ (j : Nat) (r : Rc), l[j]? = some r → news[2 * j]? = some (.int .i64 r.1) ∧ ∃ B c, news[2 * j + 1]? = some (.slice B r.2.length c) ∧ r.2.length ≤ c ∧ Kd.C (Kd.int .u8) W B r.2.length r.2 := by
  have hn : n = l.length := h.1.symm
  rcases Nat.eq_zero_or_pos n with h0 | h0
  · refine ⟨[], by simp [h0], fun h => by omega, fun u hu => (nomatch hu), fun j r hj => ?_⟩
    have := (List.getElem?_eq_some_iff.1 hj).1
    omega
  · obtain ⟨ad, _, _, e, _⟩ := rec_at h h0 (0, [])
    have key : ∀ k, k < n → W.cell? (ad.add (2 * k)) = some (.int .i64 (l.getD k (0, [])).1) ∧ ∃ B c, W.cell? (ad.add (2 * k + 1)) = some (.slice B (l.getD k (0, [])).2.length c) ∧ (l.getD k (0, [])).2.length ≤ c ∧ Kd.C (Kd.int .u8) W B (l.getD k (0, [])).2.length (l.getD k (0, [])).2 := fun k hk => by
      obtain ⟨ad', B, c, e', k0, k1, k2, k3⟩ := rec_at h hk (0, [])
      rw [e] at e'
      injection e' with e'
      subst e'
      rw [Nat.mul_comm] at k0 k1
      refine ⟨k0, B, c, ?_, k2, k3⟩
      have := add_lit_add ad (2 * k) 0
      rw [show 2 * k + 1 = 2 * k + (0 + 1) by omega, this]
      exact k1
    have hf : ∀ j, j < n * 2 → ∃ u, W.cell? (ad.add j) = some u ∧ u.oneCell' = true := fun j hj => by
      obtain ⟨k0, B, c, k1, _⟩ := key (j / 2) (by omega)
      rcases Nat.mod_two_eq_zero_or_one j with h2 | h2
      · rw [show j = 2 * (j / 2) by omega]; exact ⟨_, k0, rfl⟩
      · rw [show j = 2 * (j / 2) + 1 by omega]; exact ⟨_, k1, rfl⟩
    have hget : ∀ j, j < n * 2 → ((List.range (n * 2)).map (fun j => (W.cell? (ad.add j)).getD (.int .i64 0)))[j]? = W.cell? (ad.add j) := fun j hj => by
      obtain ⟨u, hu, _⟩ := hf j hj
      rw [List.getElem?_map, List.getElem?_range hj, Option.map_some, hu]
      rfl
    refine ⟨(List.range (n * 2)).map (fun j => (W.cell? (ad.add j)).getD (.int .i64 0)), by simp, fun _ => ⟨ad, e, fun j u hu => ?_⟩, fun u hu => ?_, fun j r hj => ?_⟩
    · have hj : j < n * 2 := by have := (List.getElem?_eq_some_iff.1 hu).1; simpa using this
      rw [hget j hj] at hu
      exact hu
    · obtain ⟨j, hj, rfl⟩ := List.mem_map.1 hu
      obtain ⟨u, hu, h1⟩ := hf j (List.mem_range.1 hj)
      rw [hu]
      exact h1
    · have hjl := (List.getElem?_eq_some_iff.1 hj).1
      have hr : l.getD j (0, []) = r := by rw [List.getD_eq_getElem?_getD, hj]; rfl
      obtain ⟨k0, B, c, k1, k2, k3⟩ := key j (by omega)
      rw [hr] at k0 k1 k2 k3
      exact ⟨(hget _ (by omega)).trans k0, B, c, (hget _ (by omega)).trans k1, k2, k3⟩
/-- append(nil, a row of records) -/
theorem app_rows {o : Oper} {ops : Array Oper} {rest : List Oper} {Q : Exit → Act → World → Prop} {a : Act} {W : World} (hgd : o.guard = none) (s x : Operand) (ho : o.op = .call { callee := .builtin .append, args := #[s, x], argTypes := #[30, 30] })
    (A : Option Addr) (n c : Nat) (news : List Value) (hs : a.eval s = .slice none 0 0) (hx : a.eval x = .slice A n c) (h1 : news.length = n * 2) (h2 : 0 < n → ∃ a, A = some a ∧ ∀ j u, news[j]? = some u → W.cell? (a.add j) = some u) (h3 : ∀ u ∈ news, u.oneCell' = true) (hl : n ≤ 1000000000)
    (h : ∀ A1 c1 w1, OwnAt w1 0 24 2 (.slice A1 n c1) n news → W.grownBy w1 none → ((Value.slice A1 n c1).ownBlock = none ∨ ∃ b, (Value.slice A1 n c1).ownBlock = some b ∧ W.heap.size ≤ b) → wpList Try.prog ops Q rest (a.put o.dst (.slice A1 n c1)) w1) :
    wpList Try.prog ops Q (o :: rest) a W := by
  obtain ⟨i0, hi0, hz0, hz1, hz2⟩ := info_parts info_rec
  refine wpList_append_at W hgd s x 30 ho 0 24 i0 (.agg #[.int .i64 0, .slice none 0 0]) 2 32 Try.underlying30 hi0 hz0 hz1 hz2 rfl (by decide) (.slice none 0 0) 0 [] hs (OwnAt.nil W 0 _ 2) A n c news hx h1 h2 h3 (by simp only [maxLen]; omega) (by omega) (Nat.zero_le _) ?_
  intro v1 w1 ho1 hg1 hn1
  rw [Nat.zero_add, List.nil_append] at ho1
  obtain ⟨A1, c1, rfl⟩ := own_form ho1
  exact h A1 c1 w1 ho1 hg1 hn1
set_option maxRecDepth 20000 in
set_option maxHeartbeats 16000000 in
theorem rlswap_calls (w0 w : World) (y x : Nat) (u : TS) (us : List Rc) (H : Nat → Prop) (l : List Rc) (A : Option Addr) (c : Nat) (h : MAt w0.heap.size w y x u us H) (hH : ∀ k, H k → w0.heap.size ≤ k ∧ k < w.heap.size) (hbw : Below w0.heap.size w0 w) (hr : recK.C w0 A l.length l) (hok : ∀ r ∈ l, RcOk r) (hll : l.length ≤ 1000000) :
    Calls Try.prog 35 #[.pointer (some ⟨y, 0, none⟩), .slice A l.length c] w (RetM w0.heap.size w y x H (swapP u us l).1 (swapP u us l).2.1 (swapP u us l).2.2) := by
  have HM0 := Aside0.mk h
  have HR0 := Aside0.mk hr
  have HL := Aside0.mk (Kd.C_below hr hbw)
  have HOK := Aside0.mk hok
  have HHH := Aside0.mk hH
  have HB0 := Aside0.mk hbw
  have hbs := hbw.size
  have HBS := Aside0.mk hbs
  have HEND : Aside0 (∀ (w1 : World) (n : Int), Below w.heap.size w w1 → RetM w0.heap.size w y x H u us n (.returned (.int .i64 n)) w1) := ⟨fun w1 n hb => by
    refine ⟨rfl, ?_, Kept.of_below H hb⟩
    obtain ⟨T, L, D, v, h1, h2, h3, h4, h5, h6, h7⟩ := HM0.out.below hb HBS.out
    exact ⟨T, L, D, v, h1, h2, h3, h4, h5, h6, fun k hk => ⟨(h7 k hk).1, (h7 k hk).2.1, .inl (h7 k hk).2.2, (h7 k hk).2.1⟩⟩⟩
  have HQ0 : Aside0 (∀ W, Below w.heap.size w W → W.cell? ⟨y, 0, none⟩ = some (.pointer (some ⟨x, 0, none⟩))) := ⟨fun W hW => by
    obtain ⟨T, L, D, v, h1, h2, _⟩ := HM0.out.below hW HBS.out
    exact (two_cells' h2).1⟩
  obtain ⟨base, hbase⟩ : ∃ base, base = w0.heap.size := ⟨_, rfl⟩
  have HBE := Aside0.mk hbase
  obtain ⟨n, hn⟩ : ∃ n, n = l.length := ⟨_, rfl⟩
  have HN := Aside0.mk hn
  rw [← hn] at hll HL ⊢
  clear h hr hok hH hbw hn hbs hbase
  go_enter Try.func35, Try.ntmps35
  go_wp2_with fail
  go_loopw [5, 6, 7, 8] (fun v5 v6 _ _ wr => ∃ i : Nat, i ≤ n ∧ v6 = .int .i64 i ∧ Aside0 (Below w.heap.size w wr) ∧ Aside0 (QB wr w.heap.size v5 (allB (l.take i))) ∧ Aside0 (∀ r ∈ l.take i, r.good)) (fun _ v _ _ _ => n - (intOf v).toNat)
  case atStart => exact ⟨0, by omega, rfl, ⟨Below.refl _ _⟩, ⟨QB.nil _ _⟩, ⟨fun r hr => by simp at hr⟩⟩
  case round =>
    obtain ⟨i, hi, rfl, HB, HQ, HGD⟩ := hrel
    obtain ⟨A5, c5, rfl, _, _, _⟩ := HQ.out.form
    have hlen9 := allB_le HGD.out
    rw [List.length_take, Nat.min_eq_left (by have := HN.out; omega)] at hlen9
    obtain ⟨xs, hxs⟩ : ∃ xs, xs = allB (l.take i) := ⟨_, rfl⟩
    have HXS := Aside0.mk hxs
    rw [← hxs] at HQ hlen9 ⊢
    clear hxs
    by_cases hlt : i < n
    · have hlt' : (i : Int) < (n : Int) := by omega
      have hil : i < l.length := by have := HN.out; omega
      obtain ⟨ad, B, c1, rfl, k0, k1, hcap, hrd⟩ := rec_at (Kd.C_below HL.out HB.out) hlt (0, [])
      have HM := Aside0.mk (rec_mem hil (0, []))
      have HTS := Aside0.mk (take_snoc hil (0, []))
      have HEB : Aside0 (¬ (l.getD i (0, [])).good → errL l = (writeR (l.getD i (0, []))).2) := ⟨fun hb => errL_bad hil HGD.out _ hb⟩
      obtain ⟨o, ho⟩ : ∃ o, o = l.getD i (0, []) := ⟨_, rfl⟩
      rw [← ho] at k0 k1 hcap hrd HM HTS HEB
      have HOI := Aside0.mk (HOK.out _ HM.out)
      obtain ⟨m, hL⟩ : ∃ m, m = o.2.length := ⟨_, rfl⟩
      have HLO := Aside0.mk hL
      rw [← hL] at k1
      have HWR := Aside0.mk (rwrite_calls wr o B c1 hrd HOI.out.2.1)
      rw [← hL] at HWR
      clear ho hcap hrd hL hil
      by_cases hgd : o.good
      · have HV := writeR_good hgd
        rw [HV] at HWR
        have HGD1 : Aside0 (∀ r ∈ l.take (i + 1), r.good) := ⟨fun r hr => by
          rw [HTS.out] at hr
          rcases List.mem_append.1 hr with h | h
          · exact HGD.out r h
          · have : r = o := by simpa using h
            rw [this]; exact hgd⟩
        have HAL : Aside0 (allB (l.take (i + 1)) = xs ++ o.all) := ⟨by rw [HTS.out, allB_snoc, HXS.out]⟩
        have hol : o.all.length ≤ 1031 := by rw [Rc.all_len]; have := hgd.2.2; omega
        obtain ⟨ys, hys⟩ : ∃ ys, ys = o.all := ⟨_, rfl⟩
        rw [← hys] at HWR HAL hol
        clear hgd HV hys
        go_wp2_with fail
        refine HWR.out.mono ?_
        rintro e w2 ⟨v2, rfl, hq2, hb2⟩
        dsimp only at hq2 ⊢
        obtain ⟨A2, c2, rfl, _, _, hr2⟩ := hq2.form
        have HR2 := Aside0.mk hr2
        have HQ2 := Aside0.mk (HQ.out.below hb2)
        have HB2 := Aside0.mk (HB.out.trans (hb2.mono HB.out.size))
        clear hq2 hb2 hr2 HWR k0 k1
        go_wp2_with ((with_reducible refine gate_dst (N := 29) rfl ?_); at_builtin; refine app_q w.heap.size rfl (.tmp 27) (.tmp 28) rfl (.slice A5 xs.length c5) xs ys A2 ys.length c2 rfl rfl rfl HQ2.out HR2.out HB2.out.size (by omega) ?_; intro v7 w4 ho1 hg1 _; rw [← HAL.out] at ho1; have HO4 := Aside0.mk ho1; have HB4 := Aside0.mk (HB2.out.grown hg1 HB2.out.size (fun k hk => (HQ2.out.block hk).1)); clear ho1 hg1)
        go_roundw
        case rel => exact ⟨i + 1, by omega, by go_num, HB4, HO4, HGD1⟩
        case measure => simp [intOf]; omega
      · have HN9 := writeR_not hgd
        have HE9 := Aside0.mk (HEB.out hgd)
        obtain ⟨er, her⟩ : ∃ er, er = (writeR o).2 := ⟨_, rfl⟩
        have hne : (er != 0) = true := by simpa [her] using HN9.2
        have HV : Aside0 (swapP u us l = (u, us, er)) := ⟨by unfold swapP; rw [HE9.out, ← her, if_neg (by rw [her]; exact HN9.2)]⟩
        have HER := Aside0.mk her
        have HNV := Aside0.mk HN9.1
        clear hgd her HN9
        go_wp2_with fail
        refine HWR.out.mono ?_
        rintro e w2 ⟨v2, rfl, hq2, hb2⟩
        rw [← HER.out]
        rw [HNV.out] at hq2
        obtain ⟨A2, c2, rfl, _⟩ := hq2.form
        have HB2 := Aside0.mk (HB.out.trans (hb2.mono HB.out.size))
        clear hq2 hb2 HWR k0 k1
        go_wp2_with fail
        go_ret
        rw [HV.out]
        exact HEND.out _ _ HB2.out
    · obtain rfl : i = n := by omega
      have hlt' : ¬ (i : Int) < (i : Int) := by omega
      have HXL : Aside0 (xs = allB l) := ⟨by rw [HXS.out, HN.out, List.take_length]⟩
      have HGL : Aside0 (∀ r ∈ l, r.good) := ⟨fun r hr => HGD.out r (by rw [HN.out, List.take_length]; exact hr)⟩
      have HEG := Aside0.mk (errL_good HGL.out)
      have HBY : Aside0 (Bytes xs) := ⟨by
        rw [HXL.out]
        unfold allB
        intro b hb
        obtain ⟨r, hr, hbr⟩ := List.mem_flatMap.1 hb
        exact Rc.all_bytes (HGL.out r hr) (HOK.out r hr).2.1 b hbr⟩
      have HBS1 : Aside0 (w0.heap.size ≤ wr.heap.size) := ⟨Nat.le_trans HBS.out HB.out.size⟩
      have HM1 := Aside0.mk (HM0.out.below HB.out HBS.out)
      have HSC := Aside0.mk (HM1.out.tape HBS1.out (fun T hT => rswap_calls wr x u T A5 c5 xs hT HQ.out.C HBY.out (by omega)))
      have x0 := HQ0.out _ HB.out
      clear hlt HXS
      go_wp2_with fail
      refine HSC.out.mono ?_
      rintro e w2 ⟨rfl, hm2, hk2⟩
      have HR2 : Aside0 (RetM w0.heap.size wr y x H (u.swap xs).1 us (u.swap xs).2 (.returned (.int .i64 (u.swap xs).2)) w2) := ⟨⟨rfl, hm2, hk2⟩⟩
      clear hm2 hk2 HSC x0
      by_cases hroom : u.room < xs.length
      · have HSW : Aside0 (u.swap xs = (u, 5)) := ⟨by unfold TS.swap; rw [if_pos hroom]⟩
        have HV : Aside0 (swapP u us l = (u, us, 5)) := ⟨by unfold swapP; rw [if_pos HEG.out, ← HXL.out, if_pos hroom]⟩
        rw [HSW.out] at HR2 ⊢
        clear hroom
        go_wp2_with fail
        go_ret
        rw [HV.out]
        exact HR2.out.front HB.out
      · have HSW : Aside0 (u.swap xs = ({ u with bs := xs, forced := xs.length }, 0)) := ⟨by unfold TS.swap; rw [if_neg hroom]⟩
        have HV : Aside0 (swapP u us l = (⟨u.room, xs, xs.length⟩, l, 0)) := ⟨by unfold swapP; rw [if_pos HEG.out, ← HXL.out, if_neg hroom]⟩
        rw [HSW.out] at HR2 ⊢
        dsimp only at HR2 ⊢
        obtain ⟨_, ⟨T, L, D, v, g1, hh, g3, g4, g5, g6, g7⟩, hk2⟩ := HR2.out
        have HK2 := Aside0.mk hk2
        have HBS2 : Aside0 (w0.heap.size ≤ w2.heap.size) := ⟨Nat.le_trans HBS1.out hk2.size⟩
        have hyl := (Array.getElem?_eq_some_iff.1 hh).1
        obtain ⟨_, x1, _, f1⟩ := two_cells' hh
        obtain ⟨Av, cv, rfl, _⟩ := g3.form
        obtain ⟨hm3, hk3⟩ := mclose (us' := []) (v1 := .slice none 0 0) (w1 := w2) (Wm := w2) g1 hh g3 g4 g5 g6 g7 HBS2.out (Below.refl _ _) (World.grownBy.refl _ _) (fun k e => (nomatch e)) (fun _ => ⟨[], OwnAt.nil _ _ _ _, fun j r hj => by simp at hj⟩)
        have hh3 : (w2.setCell ⟨y, 1, none⟩ (.slice none 0 0)).heap[y]? = some (.cells #[.pointer (some ⟨x, 0, none⟩), .slice none 0 0] 70 (0, 0)) := heap_set _ hh
        have HBA : Aside0 (Below w0.heap.size w0 (w2.setCell ⟨y, 1, none⟩ (.slice none 0 0))) := ⟨by
          have h1 : Below w0.heap.size w0 wr := HB0.out.trans (HB.out.mono HBS.out)
          have hk2' : Kept wr H w2 := HK2.out
          exact below_kept (below_kept h1 hk2' HBS1.out (fun k hk => (HHH.out k hk).1)) hk3 HBS2.out (fun k hk => hk.1.elim (fun a => (HHH.out k a).1) (fun a => Nat.le_trans HBS1.out a))⟩
        obtain ⟨news, n1, n2, n3, n4⟩ := rec_news HR0.out
        have HN1 : Aside0 (news.length = i * 2) := ⟨by rw [HN.out]; exact n1⟩
        have HN2 : Aside0 (0 < i → ∃ a, A = some a ∧ ∀ j u, news[j]? = some u → (w2.setCell ⟨y, 1, none⟩ (.slice none 0 0)).cell? (a.add j) = some u) := ⟨fun h => by
          obtain ⟨a, e, h⟩ := n2 (by rw [← HN.out]; exact h)
          exact ⟨a, e, fun j u hu => (HBA.out.cell (World.block_lt_of_cell? _ _ (h j u hu))).trans (h j u hu)⟩⟩
        have HN3 := Aside0.mk n3
        have HN4 := Aside0.mk n4
        obtain ⟨_, y1, _, f3⟩ := two_cells' hh3
        obtain ⟨w3, hw3⟩ : ∃ w3, w3 = w2.setCell ⟨y, 1, none⟩ (.slice none 0 0) := ⟨_, rfl⟩
        have HCL : Aside0 (∀ A4 c4 w4, OwnAt w4 0 24 2 (.slice A4 i c4) i news → w3.grownBy w4 none → ((Value.slice A4 i c4).ownBlock = none ∨ ∃ b, (Value.slice A4 i c4).ownBlock = some b ∧ w3.heap.size ≤ b) → (RetM w0.heap.size wr y x H ⟨u.room, xs, xs.length⟩ l 0 (.returned (.int .i64 0)) (w4.setCell ⟨y, 1, none⟩ (.slice A4 i c4)) ∧ w4.cell? ⟨y, 1, none⟩ = some (.slice none 0 0) ∧ w4.frozen? ⟨y, 1, none⟩ = false)) := ⟨fun A4 c4 w4 ho4 hg4 hn4 => by
          rw [← hw3] at hm3 hk3 hh3
          have HBA3 := HBA.out
          rw [← hw3] at HBA3
          obtain ⟨T', L', D', v', a1, a2, a3, a4, a5, a6, a7⟩ := hm3
          obtain rfl : v' = .slice none 0 0 := by
            rw [hh3] at a2
            injection a2 with a2
            injection a2 with a2 _
            simpa using a2.symm
          have hm4 := mclose (us' := l) (v1 := .slice A4 i c4) (w1 := w4) (Wm := w3) a1 a2 a3 a4 a5 a6 a7 HBA3.size (Below.refl _ _) hg4 (fun k e => hn4.elim (fun h => by rw [h] at e; exact (nomatch e)) (fun ⟨b, h, hb⟩ => .inr (by rw [h] at e; injection e with e; omega))) (fun hk4 => ⟨news, by rw [← HN.out]; exact ho4, fun j r hj => by
            obtain ⟨e1, B, c, e2, e3, e4⟩ := HN4.out j r hj
            exact ⟨e1, B, c, e2, e3, fun W' hW' => Kd.C_below e4 (HBA3.trans (hk4.below.trans hW'.below))⟩⟩)
          obtain ⟨_, z1, _, z3⟩ := two_cells' ((hg4.block y (Array.getElem?_eq_some_iff.1 a2).1 (fun e => (nomatch e))).trans a2)
          exact ⟨RetM.behind HK2.out (RetM.behind hk3 ⟨rfl, hm4.1, hm4.2⟩), z1, z3⟩⟩
        rw [hw3] at HCL
        clear g1 hh g3 g4 g5 g6 g7 hroom hk2 hm3 hk3 hh3 hw3 n1 n2 n3 n4 hyl
        go_wp2_with ((with_reducible refine gate_dst (N := 47) rfl ?_); at_builtin; refine app_rows rfl (.tmp 45) (.tmp 46) rfl A i c news rfl rfl HN1.out HN2.out HN3.out (by omega) ?_; intro A4 c4 w4 ho4 hg4 hn4; obtain ⟨hr4, z1, z3⟩ := HCL.out _ _ _ ho4 hg4 hn4; have HR4 := Aside0.mk hr4; clear hr4 ho4 hg4 hn4)
        go_ret
        rw [HV.out]
        exact HR4.out.front HB.out
end Go.Proofs.Ytcnohnieoecpdaa.Oct
