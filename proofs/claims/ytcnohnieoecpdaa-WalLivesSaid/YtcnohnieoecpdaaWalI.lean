import Derived.Test.YtcnohnieoecpdaaWalH
/- WalTurned's walk. -/
namespace Go.Proofs.Ytcnohnieoecpdaa.Oct
open Go.RowKit Go.Proofs.YtcnohnieoecpdaaW.PrintWords Go.Proofs.Ytcnohnieoecpdaa.M
set_option linter.unusedVariables false
set_option linter.unusedSimpArgs false
theorem rec_mem {l : List Rc} {i : Nat} (h : i < l.length) (z : Rc) : l.getD i z ∈ l := by rw [List.getD_eq_getElem?_getD, List.getElem?_eq_getElem h]; exact List.getElem_mem h
theorem take_snoc {l : List Rc} {i : Nat} (h : i < l.length) (z : Rc) : l.take (i + 1) = l.take i ++ [l.getD i z] := by
  rw [List.take_add_one, List.getD_eq_getElem?_getD, List.getElem?_eq_getElem h]
  rfl
theorem great_no {l : List Rc} (h : greatB l = false) : l.length ≤ 20 ∧ ∀ r ∈ l, r.2.length ≤ 3000 := by
  unfold greatB at h
  rw [Bool.or_eq_false_iff] at h
  refine ⟨by simpa using h.1, fun r hr => ?_⟩
  have := List.any_eq_false.1 h.2 r hr
  unfold longB at this
  simp at this
  omega
theorem allB_le {l : List Rc} (hg : ∀ r ∈ l, r.good) : (allB l).length ≤ 1031 * l.length := by
  induction l with
  | nil => simp [allB]
  | cons r l ih =>
    rw [allB_cons, List.length_append, Rc.all_len, List.length_cons]
    have := ih (fun q hq => hg q (by simp [hq]))
    have := (hg r (by simp)).2.2
    omega
theorem QB.set {W : World} {base g off n c : Nat} {xs : List Int} (h : QB W base (.slice (some ⟨g, off, none⟩) n c) xs) {j : Nat} (hj : j < xs.length) (y : Int) : W.cell? ⟨g, off + j, none⟩ = some (.int .u8 (xs.getD j 0)) ∧ W.frozen? ⟨g, off + j, none⟩ = false ∧ QB (W.setCell ⟨g, off + j, none⟩ (.int .u8 y)) base (.slice (some ⟨g, off, none⟩) n c) (xs.set j y) := by
  have hcell : W.cell? ⟨g, off + j, none⟩ = some (.int .u8 (xs.getD j 0)) := by
    obtain ⟨A, c', e, _, _, hr⟩ := h.form
    injection e with e1 e2 e3
    subst e1
    obtain ⟨ad, e, hc⟩ := C_byte hr hj
    injection e with e
    rw [← e, Addr.add_lit] at hc
    exact hc
  rcases h.2 with ⟨e, _⟩ | ⟨g', off', cap, cur, e, hb, hh, hc, hm, h6, h7⟩
  · cases e
  · obtain ⟨⟨rfl, rfl⟩, rfl, rfl⟩ : (g = g' ∧ off = off') ∧ n = xs.length ∧ c = cap := by simpa using e
    refine ⟨hcell, by simp [World.frozen?, hh], ?_⟩
    unfold QB
    rw [List.length_set]
    refine ⟨by simp [nums], .inr ⟨g, off, c, _, rfl, hb, heap_set _ hh, hc, hm, by simpa using h6, ?_⟩⟩
    have e1 : (cur.setIfInBounds (off + j) (.int .u8 y)).toList = cur.toList.set (off + j) (.int .u8 y) := by simp
    have e2 : nums .u8 (xs.set j y) = (nums .u8 xs).set j (.int .u8 y) := by simp [nums, List.map_set]
    rw [e1, e2, ← h7, List.drop_set, if_neg (by omega), Nat.add_sub_cancel_left, List.take_set]
theorem getD_lt_ne {xs : List Int} (hb : Bytes xs) {y : Int} (hy : Byte y) (h0 : y ≠ 0) (n : Nat) : ∃ z, Go.bits .xor .u8 (xs.getD n 0) y = z ∧ Byte z ∧ xs.getD n 0 ≠ z := by
  obtain ⟨h1, h2⟩ := hb.getD n
  obtain ⟨h3, h4⟩ := hy
  refine ⟨_, u8_xor h1 h2 h3 h4, ⟨by omega, ?_⟩, fun e => ?_⟩
  · have := xor_byte (a := (xs.getD n 0).toNat) (b := y.toNat) (by omega) (by omega)
    omega
  · have := xor_ne (a := (xs.getD n 0).toNat) (b := y.toNat) (by omega)
    omega
set_option maxRecDepth 20000 in
set_option maxHeartbeats 8000000 in
theorem wturned_calls (w : World) (l : List Rc) (A : Option Addr) (c : Nat) (k n y : Int) (h : recK.C w A l.length l) (hok : ∀ r ∈ l, RcOk r) (hcap : l.length ≤ c) (hk : -9223372036854775808 ≤ k ∧ k ≤ 9223372036854775807) (hn : -9223372036854775808 ≤ n ∧ n ≤ 9223372036854775807) (hy : Byte y) :
    Calls Try.prog 5 #[.slice A l.length c, .int .i64 k, .int .i64 n, .int .u8 y] w (Yes w) := by
  have HL := Aside0.mk h
  have HOK := Aside0.mk hok
  have HCAP := Aside0.mk hcap
  have hll : l.length ≤ 9223372036854775807 := h.2.1
  have HY := Aside0.mk hy
  clear h hok hcap hy
  have hcase : greatB l = true ∨ (greatB l = false ∧ k < 0) ∨ (greatB l = false ∧ 0 ≤ k ∧ (l.length : Int) ≤ k) ∨ (greatB l = false ∧ 0 ≤ k ∧ k < (l.length : Int) ∧ y = 0) ∨ (greatB l = false ∧ 0 ≤ k ∧ k < (l.length : Int) ∧ y ≠ 0) := by
    cases greatB l
    · have : k < 0 ∨ (0 ≤ k ∧ (l.length : Int) ≤ k) ∨ (0 ≤ k ∧ k < (l.length : Int) ∧ y = 0) ∨ (0 ≤ k ∧ k < (l.length : Int) ∧ y ≠ 0) := by omega
      simpa using this
    · exact .inl rfl
  have HGR := Aside0.mk (great_calls w l A c HL.out HOK.out)
  rcases hcase with hg | ⟨hg, h1⟩ | ⟨hg, h1, h2⟩ | ⟨hg, h1, h2, h3⟩ | ⟨hg, h1, h2, h3⟩
  · rw [hg] at HGR
    go_enter Try.func5, Try.ntmps5
    go_wp2_with fail
    refine HGR.out.mono ?_
    rintro e w1 ⟨rfl, hb1⟩
    have HB1 := Aside0.mk hb1
    clear hb1 HGR
    go_wp2_with fail
    refine (alive_calls _).mono ?_
    rintro e w3 ⟨rfl, hb3⟩
    have HB3 := Aside0.mk (HB1.out.trans (hb3.mono HB1.out.size))
    clear hb3
    go_wp2_with fail
    go_ret
    exact ⟨rfl, HB3.out⟩
  · rw [hg] at HGR
    go_enter Try.func5, Try.ntmps5
    go_wp2_with fail
    refine HGR.out.mono ?_
    rintro e w1 ⟨rfl, hb1⟩
    have HB1 := Aside0.mk hb1
    clear hb1 HGR
    go_wp2_with fail
    refine (alive_calls _).mono ?_
    rintro e w3 ⟨rfl, hb3⟩
    have HB3 := Aside0.mk (HB1.out.trans (hb3.mono HB1.out.size))
    clear hb3
    go_wp2_with fail
    go_ret
    exact ⟨rfl, HB3.out⟩
  · rw [hg] at HGR
    have h1' : ¬ k < 0 := by omega
    go_enter Try.func5, Try.ntmps5
    go_wp2_with fail
    refine HGR.out.mono ?_
    rintro e w1 ⟨rfl, hb1⟩
    have HB1 := Aside0.mk hb1
    clear hb1 HGR
    go_wp2_with fail
    refine (alive_calls _).mono ?_
    rintro e w3 ⟨rfl, hb3⟩
    have HB3 := Aside0.mk (HB1.out.trans (hb3.mono HB1.out.size))
    clear hb3
    go_wp2_with fail
    go_ret
    exact ⟨rfl, HB3.out⟩
  · rw [hg] at HGR
    have h1' : ¬ k < 0 := by omega
    have h2' : ¬ (l.length : Int) ≤ k := by omega
    have b0 : (y == 0) = true := by simpa using h3
    clear h3
    go_enter Try.func5, Try.ntmps5
    go_wp2_with fail
    refine HGR.out.mono ?_
    rintro e w1 ⟨rfl, hb1⟩
    have HB1 := Aside0.mk hb1
    clear hb1 HGR
    go_wp2_with fail
    refine (alive_calls _).mono ?_
    rintro e w3 ⟨rfl, hb3⟩
    have HB3 := Aside0.mk (HB1.out.trans (hb3.mono HB1.out.size))
    clear hb3
    go_wp2_with fail
    go_ret
    exact ⟨rfl, HB3.out⟩
  · rw [hg] at HGR
    obtain ⟨hl20, hr3⟩ := great_no hg
    have HR3 := Aside0.mk hr3
    have h1' : ¬ k < 0 := by omega
    have h2' : ¬ (l.length : Int) ≤ k := by omega
    have b0 : (y == 0) = false := beq_eq_false_iff_ne.2 h3
    have HY0 := Aside0.mk h3
    obtain ⟨K, rfl⟩ := Int.eq_ofNat_of_zero_le h1
    clear h3 hr3 hg h1
    have hK : K < l.length := by omega
    go_enter Try.func5, Try.ntmps5
    go_wp2_with fail
    refine HGR.out.mono ?_
    rintro e w1 ⟨rfl, hb1⟩
    have HB1 := Aside0.mk hb1
    clear hb1 HGR
    go_wp2_with fail
    have hd : decide ((K : Int) < 0) = false := decide_eq_false (by omega)
    have hd2 : decide (l.length ≤ K) = false := decide_eq_false (by omega)
    simp only [hd, hd2, Bool.false_or, Bool.or_false]
    clear hd hd2
    go_loopw [9, 10, 11] (fun v9 v10 v11 wr => ∃ (i F : Nat), i ≤ l.length ∧ F ≤ 1031 * i ∧ v10 = .int .i64 F ∧ v11 = .int .i64 i ∧ Aside0 (Below w.heap.size w wr) ∧ Aside0 (QB wr w.heap.size v9 (allB (l.take i))) ∧ Aside0 (∀ r ∈ l.take i, r.good) ∧ Aside0 (K < i → F = (allB (l.take K)).length)) (fun _ _ v _ => l.length - (intOf v).toNat)
    case atStart => exact ⟨0, 0, by omega, by omega, rfl, rfl, HB1, ⟨QB.nil _ _⟩, ⟨fun r hr => by simp at hr⟩, ⟨fun h => by omega⟩⟩
    case round =>
      obtain ⟨i, F, hi, hF, rfl, rfl, HB, HQ, HGD, HFF⟩ := hrel
      obtain ⟨A9, c9, rfl, hle9, _, _⟩ := HQ.out.form
      have hlen9 := allB_le HGD.out
      rw [List.length_take, Nat.min_eq_left hi] at hlen9
      obtain ⟨xs, hxs⟩ : ∃ xs, xs = allB (l.take i) := ⟨_, rfl⟩
      have HXS := Aside0.mk hxs
      rw [← hxs] at HQ hle9 hlen9 ⊢
      clear hxs
      by_cases hlt : i < l.length
      · have hlt' : (i : Int) < (l.length : Int) := by omega
        obtain ⟨ad, B, c1, rfl, k0, k1, hcap, hrd⟩ := rec_at (Kd.C_below HL.out HB.out) hlt (0, [])
        have HM := Aside0.mk (rec_mem hlt (0, []))
        have HTS := Aside0.mk (take_snoc hlt (0, []))
        obtain ⟨o, ho⟩ : ∃ o, o = l.getD i (0, []) := ⟨_, rfl⟩
        rw [← ho] at k0 k1 hcap hrd HM HTS
        have HOI := Aside0.mk (HOK.out _ HM.out)
        have HWR := Aside0.mk (wwrite_calls wr o B c1 hrd HOI.out.2.1)
        clear ho hcap hrd
        by_cases hgd : o.good
        · have HV := writeR_good hgd
          rw [HV] at HWR
          have HGD1 : Aside0 (∀ r ∈ l.take (i + 1), r.good) := ⟨fun r hr => by
            rw [HTS.out] at hr
            rcases List.mem_append.1 hr with h | h
            · exact HGD.out r h
            · have : r = o := by simpa using h
              rw [this]; exact hgd⟩
          have HAL : Aside0 (allB (l.take (i + 1)) = xs ++ o.all) := ⟨by rw [HTS.out, allB_snoc, HXS.out]⟩
          have hol : o.all.length ≤ 1031 := by rw [Rc.all_len]; have := hgd.2.2; omega
          clear hgd HV
          go_wp2_with fail
          refine HWR.out.mono ?_
          rintro e w2 ⟨v2, rfl, hq2, hb2⟩
          dsimp only at hq2 ⊢
          obtain ⟨A2, c2, rfl, hle2, _, hr2⟩ := hq2.form
          have HR2 := Aside0.mk hr2
          have HQ2 := Aside0.mk (HQ.out.below hb2)
          have HB2 := Aside0.mk (HB.out.trans (hb2.mono HB.out.size))
          clear hq2 hb2 hr2 HWR k0 k1
          by_cases hik : i = K
          · have HF1 : Aside0 (K < i + 1 → xs.length = (allB (l.take K)).length) := ⟨fun _ => by rw [HXS.out, hik]⟩
            have e1 : ((i : Int) == (K : Int)) = true := by simp; omega
            clear hik
            go_wp2_with ((with_reducible refine gate_dst (N := 58) rfl ?_); at_builtin; refine app_q w.heap.size rfl (.tmp 56) (.tmp 57) rfl (.slice A9 xs.length c9) xs o.all A2 o.all.length c2 rfl rfl rfl HQ2.out HR2.out HB2.out.size (by omega) ?_; intro v1 w4 ho1 hg1 _; rw [← HAL.out] at ho1; have HO4 := Aside0.mk ho1; have HB4 := Aside0.mk (HB2.out.grown hg1 HB2.out.size (fun k hk => (HQ2.out.block hk).1)); clear ho1 hg1)
            go_roundw
            case rel => exact ⟨i + 1, xs.length, by omega, by omega, rfl, by go_num, HB4, HO4, HGD1, HF1⟩
            case measure => simp [intOf]; omega
          · have HF1 : Aside0 (K < i + 1 → F = (allB (l.take K)).length) := ⟨fun h => HFF.out (by omega)⟩
            have e1 : ((i : Int) == (K : Int)) = false := by simp; omega
            clear hik
            go_wp2_with ((with_reducible refine gate_dst (N := 58) rfl ?_); at_builtin; refine app_q w.heap.size rfl (.tmp 56) (.tmp 57) rfl (.slice A9 xs.length c9) xs o.all A2 o.all.length c2 rfl rfl rfl HQ2.out HR2.out HB2.out.size (by omega) ?_; intro v1 w4 ho1 hg1 _; rw [← HAL.out] at ho1; have HO4 := Aside0.mk ho1; have HB4 := Aside0.mk (HB2.out.grown hg1 HB2.out.size (fun k hk => (HQ2.out.block hk).1)); clear ho1 hg1)
            go_roundw
            case rel => exact ⟨i + 1, F, by omega, by omega, rfl, by go_num, HB4, HO4, HGD1, HF1⟩
            case measure => simp [intOf]; omega
        · have HN := writeR_not hgd
          obtain ⟨er, her⟩ : ∃ er, er = (writeR o).2 := ⟨_, rfl⟩
          have hne : (er != 0) = true := by simpa [her] using HN.2
          clear hgd
          go_wp2_with fail
          refine HWR.out.mono ?_
          rintro e w2 ⟨v2, rfl, hq2, hb2⟩
          rw [← her]
          rw [HN.1] at hq2
          obtain ⟨A2, c2, rfl, _⟩ := hq2.form
          have HB2 := Aside0.mk (HB.out.trans (hb2.mono HB.out.size))
          clear hq2 hb2 HWR k0 k1 her HN
          go_wp2_with fail
          refine (alive_calls _).mono ?_
          rintro e w3 ⟨rfl, hb3⟩
          have HB3 := Aside0.mk (HB2.out.trans (hb3.mono HB2.out.size))
          clear hb3
          go_wp2_with fail
          go_ret
          exact ⟨rfl, HB3.out⟩
      · have hlt' : ¬ (i : Int) < (l.length : Int) := by omega
        obtain rfl : i = l.length := by omega
        have HXL : Aside0 (xs = allB l) := ⟨by rw [HXS.out, List.take_length]⟩
        have HGL : Aside0 (∀ r ∈ l, r.good) := ⟨fun r hr => HGD.out r (by rw [List.take_length]; exact hr)⟩
        have HFL := Aside0.mk (HFF.out hK)
        obtain ⟨ad, B, c1, rfl, k0, k1, hcap, hrd⟩ := rec_at (Kd.C_below HL.out HB.out) hK (0, [])
        have HKM := Aside0.mk (rec_mem hK (0, []))
        have HSP := Aside0.mk (split_at hK (0, []))
        obtain ⟨o, ho⟩ : ∃ o, o = l.getD K (0, []) := ⟨_, rfl⟩
        have HO := Aside0.mk ho
        rw [← ho] at k0 k1 hcap hrd HKM HSP
        have hol : o.2.length ≤ 1024 := (HGL.out o HKM.out).2.2
        clear hcap hrd ho hlt HXS HGD HFF
        have hcase : n < 0 ∨ (0 ≤ n ∧ (o.2.length : Int) < n) ∨ (0 ≤ n ∧ n ≤ (o.2.length : Int)) := by omega
        rcases hcase with h | ⟨h, h'⟩ | ⟨h, h'⟩
        · go_wp2_with fail
          refine (alive_calls _).mono ?_
          rintro e w3 ⟨rfl, hb3⟩
          have HB3 := Aside0.mk (HB.out.trans (hb3.mono HB.out.size))
          clear hb3
          go_wp2_with fail
          go_ret
          exact ⟨rfl, HB3.out⟩
        · have h0 : ¬ n < 0 := by omega
          go_wp2_with fail
          refine (alive_calls _).mono ?_
          rintro e w3 ⟨rfl, hb3⟩
          have HB3 := Aside0.mk (HB.out.trans (hb3.mono HB.out.size))
          clear hb3
          go_wp2_with fail
          go_ret
          exact ⟨rfl, HB3.out⟩
        · have h0 : ¬ n < 0 := by omega
          have h1 : ¬ (o.2.length : Int) < n := by omega
          obtain ⟨N, rfl⟩ := Int.eq_ofNat_of_zero_le h
          have hNO : N ≤ o.2.length := by omega
          have HBX : Aside0 (Bytes xs) := ⟨by
            rw [HXL.out]
            unfold allB
            intro b hb
            obtain ⟨r, hr, hbr⟩ := List.mem_flatMap.1 hb
            exact Rc.all_bytes (HGL.out r hr) (HOK.out r hr).2.1 b hbr⟩
          have hxl : F + 7 + o.2.length ≤ xs.length := by
            rw [HXL.out, HSP.out, allB_app, allB_cons, List.length_append, List.length_append, ← HFL.out, Rc.all_len]
            omega
          obtain ⟨a2, ha2⟩ : ∃ a2, a2 = F + 2 := ⟨_, rfl⟩
          obtain ⟨j, hj⟩ : ∃ j, j = a2 + N := ⟨_, rfl⟩
          have HJ := Aside0.mk (show j = F + 2 + N by omega)
          have f1 : (F : Int) + 2 = (a2 : Int) := by omega
          have f1' : IntKind.i64.wrap ((F : Int) + 2) = (a2 : Int) := by rw [IntWalk.i64_in _ (by omega)]; omega
          have f1'' : IntKind.i64.wrap (a2 : Int) = (a2 : Int) := IntWalk.i64_in _ (by omega)
          have f2 : (a2 : Int) + (N : Int) = (j : Int) := by omega
          have f2' : IntKind.i64.wrap ((a2 : Int) + (N : Int)) = (j : Int) := by rw [IntWalk.i64_in _ (by omega)]; omega
          have f2'' : IntKind.i64.wrap (j : Int) = (j : Int) := IntWalk.i64_in _ (by omega)
          have hjx : j < xs.length := by omega
          have hjx' : (j : Int) < (xs.length : Int) := by omega
          obtain ⟨z, hz, hzb, hne⟩ := getD_lt_ne HBX.out HY.out HY0.out j
          have HRT : Aside0 (readL 0 (xs.set j z) = endsR 0 (l.take K)) := ⟨by
            have e : j = (allB (l.take K)).length + 2 + N := by rw [HJ.out, HFL.out]
            rw [HXL.out, e]
            exact readL_turned HGL.out (fun r hr => (HOK.out r hr).2.1) hK (0, []) (by rw [← HO.out]; exact hNO) hzb (by rw [← e, ← HXL.out]; exact hne)⟩
          have HBY := Aside0.mk (HBX.out.set hzb j)
          have hlen2 : xs.length ≤ 30000 := by omega
          have HLT : Aside0 (xs.length ≤ 140737488355328) := ⟨by omega⟩
          have HYL : Aside0 ((xs.set j z).length = xs.length) := ⟨by rw [List.length_set]⟩
          have HMP : Aside0 ((endsR 0 (l.take K)).map (·.2) = l.take K) := ⟨endsR_map _ 0⟩
          have HEL : Aside0 (endL (endsR 0 (l.take K)) = (F : Int)) := ⟨by rw [endL_zero, HFL.out]⟩
          have HTK : Aside0 ((l.take K).length = K) := ⟨by rw [List.length_take]; omega⟩
          have HTB : Aside0 (∀ r ∈ l.take K, Bytes r.2) := ⟨fun r hr => (HOK.out r (List.mem_of_mem_take hr)).2.1⟩
          obtain ⟨u, hu⟩ : ∃ u, u = xs.getD j 0 := ⟨_, rfl⟩
          rw [← hu] at hz
          have HU := Aside0.mk hu
          clear ha2 hj hne hzb h h0 hNO hxl HJ hu
          go_wp2_with fail
          refine (copy_calls wr A9 c9 xs HQ.out.C HLT.out).mono ?_
          rintro e w2 ⟨v2, rfl, ho2, hb2⟩
          have hq2 := QB.of_OB ho2
          obtain ⟨A2, c2, rfl, hle2, _, _⟩ := hq2.form
          obtain ⟨_, g, off, rfl, hg2⟩ := hq2.pos (show 0 < xs.length by omega)
          obtain ⟨hcell, hfr, hq3⟩ := hq2.set hjx z
          rw [← HU.out] at hcell
          have HQ3 := Aside0.mk hq3
          have HB2 := Aside0.mk (HB.out.trans (hb2.mono HB.out.size))
          have HG2 : Aside0 (w.heap.size ≤ g) := ⟨Nat.le_trans HB.out.size hg2⟩
          clear ho2 hq2 hq3 hb2 hg2 k0 k1
          go_wp2_with fail
          obtain ⟨w3, hw3⟩ : ∃ w3, w3 = w2.setCell ⟨g, off + j, none⟩ (.int .u8 z) := ⟨_, rfl⟩
          rw [← hw3] at HQ3 ⊢
          have HB3 : Aside0 (Below w.heap.size w w3) := ⟨by rw [hw3]; exact HB2.out.setCell HG2.out _⟩
          clear hcell hfr hw3 hz
          have HRD := Aside0.mk (wread_calls w3 (xs.set j z) (some ⟨g, off, none⟩) c2 (by rw [HYL.out]; exact hle2) HQ3.out.C HBY.out (by rw [HYL.out]; omega))
          rw [HYL.out] at HRD
          refine HRD.out.mono ?_
          rintro e w4 ⟨v4, rfl, hrw, hb4⟩
          rw [HRT.out, HMP.out] at hrw
          rw [HRT.out, HEL.out]
          obtain ⟨A4, c4, rfl⟩ := hrw.form
          have HB4 := Aside0.mk (HB3.out.trans (hb4.mono HB3.out.size))
          have HRW := Aside0.mk hrw
          obtain ⟨i0, hi0, hz0, hz1, hz2⟩ := info_parts info_rec
          have hcut := cut_to (P := Try.prog) 30 24 .i64 Try.underlying30 hi0 (some ad) l.length c (K : Int) (by omega) (by omega) HCAP.out
          simp only [Int.toNat_natCast] at hcut
          rw [HTK.out] at HRW ⊢
          clear hrw hb4 hi0 hz0 hz1 hz2 HRD
          go_wp2_with fail
          refine (alive_calls _).mono ?_
          rintro e w5 ⟨rfl, hb5⟩
          have HB5 := Aside0.mk (HB4.out.trans (hb5.mono HB4.out.size))
          have HRC := Aside0.mk (Kd.C_below (RW.C HRW.out (by rw [HTK.out]; omega)) hb5)
          have HSM := Aside0.mk (same_calls w5 (l.take K) (l.take K) A4 (some ad) c4 c HRC.out (Kd.C_below (Kd.C_take HL.out (by omega)) HB5.out) HTB.out HTB.out)
          rw [HTK.out, show sameB (l.take K) (l.take K) = true by simp [sameB]] at HSM
          clear hb5
          go_wp2_with fail
          refine HSM.out.mono ?_
          rintro e w6 ⟨rfl, hb6⟩
          have HB6 := Aside0.mk (HB5.out.trans (hb6.mono HB5.out.size))
          have hff : ((F : Int) == (F : Int)) = true := beq_self_eq_true _
          clear hb6 hcut
          go_wp2_with fail
          go_ret
          exact ⟨rfl, HB6.out⟩
end Go.Proofs.Ytcnohnieoecpdaa.Oct
