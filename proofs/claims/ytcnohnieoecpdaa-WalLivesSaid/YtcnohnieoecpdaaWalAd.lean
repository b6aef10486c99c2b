import Derived.Test.YtcnohnieoecpdaaWalAc
namespace Go.Proofs.Ytcnohnieoecpdaa.Oct
open Go.RowKit Go.Proofs.YtcnohnieoecpdaaW.PrintWords Go.Proofs.Ytcnohnieoecpdaa.M
set_option linter.unusedVariables false
set_option linter.unusedSimpArgs false
theorem RetR.behind {w w2 w3 : World} {p : Nat} {F : Nat → Prop} {t : TS} {n : Int} {e : Ending} (hk : Kept w F w2) (hr : RetR w2 p (New w F) t n e w3) : RetR w p F t n e w3 := by
  obtain ⟨rfl, ht, hk2⟩ := hr
  refine ⟨rfl, ht.mono (fun k h _ => h.elim id (fun h => .inr (Nat.le_trans hk.size h))), hk.trans hk2 (fun k hlt h => h.elim id (fun h => by have h' : w.heap.size ≤ k := h; omega))⟩
theorem crash_all {t : TS} {xs ys : List Int} (h1 : t.bs = xs ++ ys) (h2 : t.forced = xs.length) (k : Int) (h : (ys.length : Int) ≤ max k 0) : t.crash k = t.force := by
  have hl : t.left k = t.bs.length := by unfold TS.left; rw [h2, h1, List.length_append]; omega
  unfold TS.crash TS.force
  rw [hl, List.take_length]
theorem crash_some {t : TS} {xs ys : List Int} (h1 : t.bs = xs ++ ys) (h2 : t.forced = xs.length) (k : Int) (j : Nat) (hj : (j : Int) = max k 0) (h : j ≤ ys.length) : t.crash k = (TS.mk t.room (xs ++ ys.take j) xs.length).force := by
  have hl : t.left k = xs.length + j := by unfold TS.left; rw [h2, h1, List.length_append]; omega
  have ht : t.bs.take (xs.length + j) = xs ++ ys.take j := by rw [h1, List.take_append, List.take_of_length_le (by omega)]; simp
  unfold TS.crash TS.force
  rw [hl, ht]
  simp
  omega
theorem mid_ok {t : TS} {xs ys : List Int} (hok : t.ok) (h1 : t.bs = xs ++ ys) (j : Nat) : (TS.mk t.room (xs ++ ys.take j) xs.length).ok := by
  obtain ⟨a, b, c, d, e⟩ := hok
  rw [h1, List.length_append] at c
  refine ⟨a, b, ?_, ?_, fun x hx => e x ?_⟩
  · show (xs ++ ys.take j).length ≤ t.room
    rw [List.length_append, List.length_take]; omega
  · show xs.length ≤ (xs ++ ys.take j).length
    rw [List.length_append]; omega
  · rw [h1]
    rcases List.mem_append.1 hx with h | h
    · exact List.mem_append_left _ h
    · exact List.mem_append_right _ (List.mem_of_mem_take h)
set_option maxHeartbeats 1000000 in
theorem rcrash_nat (w : World) (p : Nat) (t : TS) (F : Nat → Prop) (k : Int) (j : Nat) (hj : (j : Int) = max k 0) (hk : k < 0 ∨ k = j) (h : RefAt w p t F) :
    Calls Try.prog 36 #[.pointer (some ⟨p, 0, none⟩), .int .i64 k] w (RetR w p F (t.crash k) 0) := by
  have HT := Aside0.mk h
  obtain ⟨v1, v2, xs, ys, h1, h2, hh, ho1, ho2, hp, hk1, hk2, hok⟩ := h
  have HP := Aside0.mk (And.intro hp hok)
  have HE := Aside0.mk (And.intro h1 h2)
  have HK := Aside0.mk hk1
  have HJ := Aside0.mk hj
  have HPL := Aside0.mk (Array.getElem?_eq_some_iff.1 hh).1
  have HH := Aside0.mk hh
  have HO1 := Aside0.mk ho1
  have hyl : ys.length ≤ 65536 := by
    have h3 : ys.length ≤ t.bs.length := by rw [h1, List.length_append]; omega
    exact Nat.le_trans h3 (Nat.le_trans hok.2.2.1 hok.2.1)
  obtain ⟨A1, d1, rfl, _⟩ := ho1.reads
  obtain ⟨A2, d2, rfl, hr2⟩ := ho2.reads
  have hcap := ho2.cap
  have HR2 := Aside0.mk hr2
  clear hh ho1 ho2 hk1 hk2 hok h1 h2 hp hr2 hj
  obtain ⟨c0, c1, c2, f0, f1, f2⟩ := three_cells HH.out
  by_cases hlt : j < ys.length
  · have HCR := Aside0.mk (crash_some HE.out.1 HE.out.2 k j HJ.out (by omega))
    have l0 : (0 : Int) ≤ (j : Int) := by omega
    have l1 : (j : Int) ≤ (d2 : Int) := by omega
    have l2 : (j : Int) < (ys.length : Int) := by omega
    have hl : (ys.take j).length = j := by rw [List.length_take]; omega
    have HCP := copy_calls w A2 d2 (ys.take j) (by rw [hl]; exact C_take HR2.out j (by omega)) (by omega)
    rw [hl] at HCP
    have HCP' := Aside0.mk HCP
    have HOKM := Aside0.mk (mid_ok HP.out.2 HE.out.1 j)
    clear HCP hl
    obtain ⟨zs, hz⟩ : ∃ zs, zs = ys.take j := ⟨_, rfl⟩
    rw [← hz] at HCP' HOKM HCR
    clear hz
    have hcase : (k < 0 ∧ j = 0) ∨ k = j := by have := HJ.out; omega
    clear hk
    rcases hcase with ⟨hk, rfl⟩ | rfl
    all_goals
      go_enter Try.func36, Try.ntmps36
      go_wp2_with fail
      refine HCP'.out.mono ?_
      rintro e w1 ⟨v, rfl, ho, hb⟩
      obtain ⟨A3, c3, rfl, _⟩ := ho.reads
      have HO := Aside0.mk ho
      have HB := Aside0.mk hb
      have HH1 := Aside0.mk (blk_keep HH.out hb)
      clear ho hb c0 c1 c2 f0 f1 f2
      obtain ⟨c0, c1, c2, f0, f1, f2⟩ := three_cells HH1.out
      go_wp2_with fail
      have hcl := ref_close HP.out.1 HOKM.out (Kept.of_below F HB.out) rfl rfl (heap_set _ HH1.out) (grown_set w1 p 2 _) (HO1.out.below HB.out)
        (fun k hk => ⟨.inl (HK.out k hk).1, (HK.out k hk).2⟩) (HO.out.lower (Nat.zero_le _)) (fun k hk => by have h1 := own_base HO.out k hk; have := HPL.out; exact ⟨.inr h1, by omega, fun e => by have := own_lt HO1.out k e; omega⟩)
      refine (rforce_calls _ p _ _ hcl.1).mono ?_
      intro e w3 hr
      have HQ := Aside0.mk (RetR.behind hcl.2 hr)
      obtain ⟨rfl, _, _⟩ := hr
      clear hcl
      go_wp2_with fail
      go_ret
      rw [HCR.out]
      exact HQ.out
  · have HCR := Aside0.mk (crash_all HE.out.1 HE.out.2 k (by have := HJ.out; omega))
    have hcase : (k < 0 ∧ ys.length = 0) ∨ (0 ≤ k ∧ (ys.length : Int) ≤ k) := by have := HJ.out; omega
    clear hk hlt
    rcases hcase with ⟨hk, hy⟩ | ⟨hk, hy⟩
    all_goals
      try (have hy' : (ys.length : Int) ≤ 0 := by omega)
      go_enter Try.func36, Try.ntmps36
      go_wp2_with fail
      refine (rforce_calls _ p _ _ HT.out).mono ?_
      intro e w3 hr
      have HQ := Aside0.mk hr
      obtain ⟨rfl, _, _⟩ := hr
      go_wp2_with fail
      go_ret
      rw [HCR.out]
      exact HQ.out
theorem rcrash_calls (w : World) (p : Nat) (t : TS) (F : Nat → Prop) (k : Int) (h : RefAt w p t F) :
    Calls Try.prog 36 #[.pointer (some ⟨p, 0, none⟩), .int .i64 k] w (RetR w p F (t.crash k) 0) :=
  rcrash_nat w p t F k (max k 0).toNat (by omega) (by omega) h
theorem rcut_bad (w : World) (p : Nat) (t : TS) (F : Nat → Prop) (n : Int) (h : RefAt w p t F) (hn : n < 0 ∨ (t.bs.length : Int) < n) :
    Calls Try.prog 51 #[.pointer (some ⟨p, 0, none⟩), .int .i64 n] w (RetR w p F (t.cut n).1 (t.cut n).2) := by
  have HCR : Aside0 (t.cut n = (t, 1)) := ⟨by unfold TS.cut; rw [if_pos hn]⟩
  have HT := Aside0.mk h
  clear h
  rcases hn with hn | hn
  all_goals
    go_enter Try.func51, Try.ntmps51
    go_wp2_with fail
    refine (rbytes_calls _ p _ _ HT.out).mono ?_
    rintro e w1 ⟨v, rfl, ho, hb⟩
    obtain ⟨A3, c3, rfl, _⟩ := ho.reads
    have HB := Aside0.mk hb
    clear ho hb
    go_wp2_with fail
    go_ret
    rw [HCR.out]
    exact ⟨rfl, (HT.out.below HB.out).mono (fun k hk _ => .inl hk), Kept.of_below F HB.out⟩
set_option maxHeartbeats 1000000 in
theorem rcut_good (w : World) (p : Nat) (t : TS) (F : Nat → Prop) (n : Nat) (h : RefAt w p t F) (hn : n ≤ t.bs.length) :
    Calls Try.prog 51 #[.pointer (some ⟨p, 0, none⟩), .int .i64 n] w (RetR w p F (t.cut n).1 (t.cut n).2) := by
  have HCR : Aside0 (t.cut n = ({ t with bs := t.bs.take n, forced := min t.forced n }, 0)) := ⟨by unfold TS.cut; rw [if_neg (by omega)]; simp⟩
  have HT := Aside0.mk h
  obtain ⟨v1, v2, xs, ys, h1, h2, hh, ho1, ho2, hp, hk1, hk2, hok⟩ := h
  have HP := Aside0.mk (And.intro hp hok)
  have HE := Aside0.mk (And.intro h1 h2)
  have HK := Aside0.mk hk1
  have HPL := Aside0.mk (Array.getElem?_eq_some_iff.1 hh).1
  have HH := Aside0.mk hh
  have HO1 := Aside0.mk ho1
  have hbl : t.bs.length ≤ 65536 := Nat.le_trans hok.2.2.1 hok.2.1
  have HBL : Aside0 (t.bs.length = xs.length + ys.length) := ⟨by rw [h1, List.length_append]⟩
  obtain ⟨A1, d1, rfl, _⟩ := ho1.reads
  obtain ⟨A2, d2, rfl, _⟩ := ho2.reads
  have HOK2 : Aside0 (TS.ok { t with bs := t.bs.take n, forced := min t.forced n }) := ⟨by have := TS.cut_ok hok n; rw [HCR.out] at this; exact this⟩
  clear hh ho1 ho2 hk1 hk2 hok h1 h2 hp
  have l0 : (0 : Int) ≤ (n : Int) := by omega
  have l1 : (n : Int) ≤ (t.bs.length : Int) := by omega
  go_enter Try.func51, Try.ntmps51
  go_wp2_with fail
  refine (rbytes_calls _ p _ _ HT.out).mono ?_
  rintro e w1 ⟨v, rfl, ho, hb⟩
  obtain ⟨A3, c3, rfl, hr3⟩ := ho.reads
  have hcap := ho.cap
  have HO := Aside0.mk ho
  have HB := Aside0.mk hb
  have HR3 := Aside0.mk hr3
  have HH1 := Aside0.mk (blk_keep HH.out hb)
  clear ho hb hr3
  obtain ⟨c0, c1, c2, f0, f1, f2⟩ := three_cells HH1.out
  have l2 : (n : Int) ≤ (c3 : Int) := by omega
  by_cases hlt : n ≤ xs.length
  · have hl : (t.bs.take n).length = n := by rw [List.length_take]; omega
    have HCP := copy_calls w1 A3 c3 (t.bs.take n) (by rw [hl]; exact C_take HR3.out n (by omega)) (by omega)
    rw [hl] at HCP
    have HCP' := Aside0.mk HCP
    clear HCP hl
    obtain ⟨zs, hz⟩ : ∃ zs, zs = t.bs.take n := ⟨_, rfl⟩
    have HZ : Aside0 (zs.length = min t.forced n) := ⟨by rw [hz, List.length_take, HE.out.2]; omega⟩
    rw [← hz] at HCP' HOK2 HCR
    clear hz
    go_wp2_with fail
    refine HCP'.out.mono ?_
    rintro e w2 ⟨v, rfl, ho, hb⟩
    obtain ⟨A4, c4, rfl, _⟩ := ho.reads
    have HO4 := Aside0.mk ho
    have HB4 := Aside0.mk (HB.out.trans (hb.mono HB.out.size))
    have HS1 := Aside0.mk HB.out.size
    have HH2 := Aside0.mk (blk_keep HH1.out hb)
    clear ho hb c0 c1 c2 f0 f1 f2
    obtain ⟨c0, c1, c2, f0, f1, f2⟩ := three_cells HH2.out
    go_wp2_with fail
    go_ret
    rw [HCR.out]
    exact ⟨rfl, ref_close HP.out.1 HOK2.out (Kept.of_below F HB4.out) (List.append_nil _).symm HZ.out.symm (heap_set _ (heap_set _ HH2.out)) (two_sets _ _ _ _ _ _) (HO4.out.lower (Nat.zero_le _))
      (fun k hk => by have h1 := own_base HO4.out k hk; have := HPL.out; have := HS1.out; exact ⟨.inr (by show w.heap.size ≤ k; omega), by omega⟩) (OB.nil _ _) (fun k hk => (nomatch hk))⟩
  · have hx1 : xs.length ≤ n := by omega
    have hl : ((t.bs.take n).drop xs.length).length = n - xs.length := by rw [List.length_drop, List.length_take]; omega
    obtain ⟨i0, hi0, hz0, hz1, hz2⟩ := info_parts info_u8
    have hcut := cut_mid (P := Try.prog) 22 5 .i64 .i64 Try.underlying22 hi0 1 hz1 A3 t.bs.length c3 (xs.length : Int) (n : Int) (by omega) (by omega) (by omega) hcap
    have hmid := Kd.C_mid (c := c3) HR3.out hx1 hn hcap
    simp only [Int.toNat_natCast] at hcut
    have hsz : (Kd.int IntKind.u8).sz = 1 := rfl
    rw [hsz] at hmid
    obtain ⟨A5, hA5⟩ : ∃ A5, A5 = (if c3 = xs.length then A3 else A3.map (·.add (xs.length * 1))) := ⟨_, rfl⟩
    rw [← hA5] at hcut hmid
    have HCP := copy_calls w1 A5 (c3 - xs.length) ((t.bs.take n).drop xs.length) hmid (by omega)
    rw [hl] at HCP
    have HCP' := Aside0.mk HCP
    clear HCP hA5 hmid hi0 hz0 hz1 hz2 hsz
    obtain ⟨zs, hz⟩ : ∃ zs, zs = (t.bs.take n).drop xs.length := ⟨_, rfl⟩
    have HZ : Aside0 (t.bs.take n = xs ++ zs ∧ min t.forced n = xs.length) := ⟨by
      refine ⟨?_, by rw [HE.out.2]; omega⟩
      rw [hz, HE.out.1, List.take_append, List.take_of_length_le hx1, List.drop_left]⟩
    rw [← hz] at HCP'
    clear hz hl
    have l3 : (xs.length : Int) ≤ (n : Int) := by omega
    have l4 : (xs.length : Int) < (n : Int) := by omega
    go_wp2_with fail
    refine HCP'.out.mono ?_
    rintro e w2 ⟨v, rfl, ho, hb⟩
    obtain ⟨A4, c4, rfl, _⟩ := ho.reads
    have HO4 := Aside0.mk ho
    have HB4 := Aside0.mk (HB.out.trans (hb.mono HB.out.size))
    have HS1 := Aside0.mk HB.out.size
    have HH2 := Aside0.mk (blk_keep HH1.out hb)
    clear ho hb c0 c1 c2 f0 f1 f2
    obtain ⟨c0, c1, c2, f0, f1, f2⟩ := three_cells HH2.out
    go_wp2_with fail
    go_ret
    rw [HCR.out]
    exact ⟨rfl, ref_close HP.out.1 HOK2.out (Kept.of_below F HB4.out) HZ.out.1 HZ.out.2 (heap_set _ HH2.out) (grown_set _ _ _ _) (HO1.out.below HB4.out) (fun k hk => ⟨.inl (HK.out k hk).1, (HK.out k hk).2⟩) (HO4.out.lower (Nat.zero_le _))
      (fun k hk => by have h1 := own_base HO4.out k hk; have := HPL.out; have := HS1.out; exact ⟨.inr (by show w.heap.size ≤ k; omega), by omega, fun e => by have := own_lt HO1.out k e; omega⟩)⟩
theorem rcut_calls (w : World) (p : Nat) (t : TS) (F : Nat → Prop) (n : Int) (h : RefAt w p t F) :
    Calls Try.prog 51 #[.pointer (some ⟨p, 0, none⟩), .int .i64 n] w (RetR w p F (t.cut n).1 (t.cut n).2) := by
  by_cases hn : n < 0 ∨ (t.bs.length : Int) < n
  · exact rcut_bad w p t F n h hn
  · obtain ⟨m, rfl⟩ := Int.eq_ofNat_of_zero_le (show 0 ≤ n by omega)
    exact rcut_good w p t F m h (by omega)
end Go.Proofs.Ytcnohnieoecpdaa.Oct
