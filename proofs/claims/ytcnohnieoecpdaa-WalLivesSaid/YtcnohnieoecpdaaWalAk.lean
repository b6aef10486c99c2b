import Derived.Test.YtcnohnieoecpdaaWalAj
import Derived.Deep.CutRange
/- WalLives. -/
namespace Go.Proofs.Ytcnohnieoecpdaa.Oct
open Go.RowKit Go.Proofs.YtcnohnieoecpdaaW.PrintWords Go.Proofs.Ytcnohnieoecpdaa.M
set_option linter.unusedVariables false
set_option linter.unusedSimpArgs false
def Sound (t : TS) (ls : List Rc) : Prop := t.bs = allB ls ∧ ∀ r ∈ ls, r.good ∧ Bytes r.2
theorem addP_sound {t : TS} {ls : List Rc} (h : Sound t ls) {r : Rc} (hb : Bytes r.2) (f : Bool) : Sound (addP t ls r f).1 (addP t ls r f).2.1 ∧ ls <+: (addP t ls r f).2.1 ∧ (addP t ls r f).2.1.length ≤ ls.length + 1 ∧ (addP t ls r false).1.forced = t.forced ∧ (t.forced = t.bs.length → (addP t ls r true).1.forced = (addP t ls r true).1.bs.length) ∧ (addP t ls r f).1.room = t.room := by
  unfold addP
  by_cases hg : r.good
  · rw [if_pos hg, if_pos hg, if_pos hg]
    by_cases hl : t.room - t.bs.length < r.all.length
    · rw [if_pos hl, if_pos hl, if_pos hl]
      exact ⟨h, List.prefix_refl _, Nat.le_succ _, rfl, id, rfl⟩
    · rw [if_neg hl, if_neg hl, if_neg hl]
      have hs : (t.bs ++ r.all) = allB (ls ++ [r]) ∧ ∀ q ∈ ls ++ [r], q.good ∧ Bytes q.2 := ⟨by rw [allB_snoc, h.1], fun q hq => by
        rcases List.mem_append.1 hq with hq | hq
        · exact h.2 q hq
        · obtain rfl := List.mem_singleton.1 hq
          exact ⟨hg, hb⟩⟩
      cases f
      · exact ⟨hs, List.prefix_append _ _, by simp, rfl, fun _ => rfl, rfl⟩
      · exact ⟨hs, List.prefix_append _ _, by simp, rfl, fun _ => rfl, rfl⟩
  · rw [if_neg hg, if_neg hg, if_neg hg]
    exact ⟨h, List.prefix_refl _, Nat.le_succ _, rfl, id, rfl⟩
theorem errL_zero {l : List Rc} (h : errL l = 0) : ∀ r ∈ l, r.good := by
  induction l with
  | nil => intro r hr; nomatch hr
  | cons r l ih =>
    unfold errL at h
    by_cases hg : r.good
    · rw [if_pos hg] at h
      intro q hq
      rcases List.mem_cons.1 hq with rfl | hq
      · exact hg
      · exact ih h q hq
    · rw [if_neg hg] at h
      exact absurd h (writeR_not hg).2
theorem swapP_cases (t : TS) (ls l : List Rc) : (∃ e, e ≠ 0 ∧ swapP t ls l = (t, ls, e)) ∨ ((∀ r ∈ l, r.good) ∧ swapP t ls l = (⟨t.room, allB l, (allB l).length⟩, l, 0)) := by
  unfold swapP
  by_cases h : errL l = 0
  · rw [if_pos h]
    by_cases hr : t.room < (allB l).length
    · rw [if_pos hr]
      exact .inl ⟨5, by decide, rfl⟩
    · rw [if_neg hr]
      exact .inr ⟨errL_zero h, rfl⟩
  · rw [if_neg h]
    exact .inl ⟨_, h, rfl⟩
theorem sound_len {t : TS} {ls : List Rc} (h : Sound t ls) : ls.length ≤ t.bs.length := by
  rw [h.1]
  have : ∀ l : List Rc, l.length ≤ (allB l).length := by
    intro l
    induction l with
    | nil => exact Nat.zero_le _
    | cons r l ih => rw [allB_cons, List.length_append, List.length_cons, Rc.all_len]; omega
  exact this ls
theorem opened_sound {t : TS} (h : t.ok) : Sound t.opened (recsOf t.bs) := by
  obtain ⟨_, _, hg, _⟩ := read_split h.2.2.2.2
  exact ⟨rfl, hg⟩
theorem swapP_sound {t : TS} {ls l : List Rc} (h : Sound t ls) (hb : ∀ r ∈ l, Bytes r.2) : Sound (swapP t ls l).1 (swapP t ls l).2.1 ∧ (swapP t ls l).1.room = t.room := by
  rcases swapP_cases t ls l with ⟨e, _, hs⟩ | ⟨hg, hs⟩
  · rw [hs]; exact ⟨h, rfl⟩
  · rw [hs]; exact ⟨⟨rfl, fun r hr => ⟨hg r hr, hb r hr⟩⟩, rfl⟩
theorem app_room' (t : TS) (ys : List Int) : (t.append ys).1.room = t.room := by
  unfold TS.append
  split <;> rfl
set_option maxRecDepth 200000 in
set_option maxHeartbeats 64000000 in
theorem wlives_good (w : World) (room : Nat) (first : List Int) (l : List OpW) (A0 A : Option Addr) (c0 c : Nat) (h0 : Kd.C (Kd.int .u8) w A0 first.length first) (hf : Bytes first) (h : wopK.C w A l.length l) (hok : ∀ o ∈ l, OpWOk o) (hr1 : 1 ≤ room) (hr2 : room ≤ 65536) (hfl : first.length ≤ 500) :
    Calls Try.prog 10 #[.int .i64 room, .slice A0 first.length c0, .slice A l.length c] w (Yes w) := by
  have HF0 := Aside0.mk h0
  have HFB := Aside0.mk hf
  have HL := Aside0.mk h
  have HOK := Aside0.mk hok
  have HRM := Aside0.mk (And.intro hr1 hr2)
  have hll : l.length ≤ 9223372036854775807 := h.2.1
  clear h0 hf h hok hr1 hr2
  go_enter Try.func10, Try.ntmps10
  go_wp2_with fail
  refine (new_good _ room HRM.out.1 HRM.out.2).mono ?_
  rintro e w1 ⟨rfl, ht, hb⟩
  have HT1 := Aside0.mk (ht.mono (G := fun k => w.heap.size ≤ k ∧ k < w1.heap.size) (fun k hk hlt => ⟨hk, hlt⟩))
  have HB1 := Aside0.mk hb
  clear ht hb
  go_wp2_with fail
  refine (rnew_good _ room HRM.out.1 HRM.out.2).mono ?_
  rintro e w2 ⟨rfl, ht, hb⟩
  have HB2 := Aside0.mk (HB1.out.trans (hb.mono HB1.out.size))
  have H2 : Aside0 (TwoT w.heap.size w2 w.heap.size ⟨room, [], 0⟩ w1.heap.size ⟨room, [], 0⟩ (fun _ => False)) :=
    ⟨_, fun k => w1.heap.size ≤ k ∧ k < w2.heap.size, HT1.out.below hb, ht.mono (fun k hk hlt => ⟨hk, hlt⟩), (fun k hk hg => by have := hk.2; have := hg.1; omega), (fun k hk => ⟨hk.1, Nat.lt_of_lt_of_le hk.2 hb.size, id⟩), (fun k hk => ⟨Nat.le_trans HB1.out.size hk.1, hk.2, id⟩), fun _ h => h.elim, Nat.le_trans HB1.out.size hb.size⟩
  obtain ⟨p, hp⟩ : ∃ p, p = w.heap.size := ⟨_, rfl⟩
  obtain ⟨x, hq⟩ : ∃ x, x = w1.heap.size := ⟨_, rfl⟩
  have H2' : Aside0 (TwoT w.heap.size w2 p ⟨room, [], 0⟩ x ⟨room, [], 0⟩ (fun _ => False)) := ⟨by rw [hp, hq]; exact H2.out⟩
  rw [← hq, ← hp]
  have HA1 := Aside0.mk (H2'.out.real (fun F hF => append_calls w2 p _ F A0 c0 first hF (Kd.C_below HF0.out HB2.out) HFB.out))
  clear ht hb hp hq HT1 H2 HB1
  go_wp2_with fail
  refine HA1.out.mono ?_
  rintro e w3 ⟨rfl, h3, hk3⟩
  have HB3 := Aside0.mk (HB2.out.trans hk3.below)
  have HA2 := Aside0.mk (h3.ref (fun T hT => rappend_calls w3 x _ T A0 c0 first hT (Kd.C_below HF0.out HB3.out) HFB.out (by omega)))
  have hrm1 := app_room' ⟨room, [], 0⟩ first
  obtain ⟨t1, ht1⟩ : ∃ t1, t1 = ((TS.mk room [] 0).append first).1 := ⟨_, rfl⟩
  rw [← ht1] at HA2 hrm1
  have HR1 := Aside0.mk hrm1
  clear h3 hk3 HA1 hrm1 ht1
  go_wp2_with fail
  refine HA2.out.mono ?_
  rintro e w4 ⟨rfl, h4, hk4⟩
  have HB4 := Aside0.mk (HB3.out.trans hk4.below)
  have HO1 := Aside0.mk (h4.opens)
  have HK1 : Aside0 t1.ok := ⟨by obtain ⟨F, T, ⟨_, _, _, _, _, _, h⟩, _⟩ := h4; exact h⟩
  clear h4 hk4 HA2
  go_wp2_with fail
  refine HO1.out.mono ?_
  rintro e w5 ⟨q, A5, c5, rfl, h5, hr5, hk5⟩
  have HB5 := Aside0.mk (HB4.out.trans hk5.below)
  have HR5 := Aside0.mk hr5
  have HO2 := Aside0.mk (h5.opens)
  have HSO := Aside0.mk (opened_sound HK1.out)
  have HLS : Aside0 ((recsOf t1.bs).length ≤ 65536) := ⟨recs_le (Nat.le_trans HK1.out.2.2.1 HK1.out.2.1)⟩
  obtain ⟨ls1, hls1⟩ : ∃ ls1, ls1 = recsOf t1.bs := ⟨_, rfl⟩
  rw [← hls1] at HO2 HR5 HSO HLS ⊢
  clear h5 hr5 hk5 HO1 hls1
  go_wp2_with fail
  refine HO2.out.mono ?_
  rintro e w6 ⟨y, A6, c6, rfl, h6, hc6, hk6, hkp6⟩
  have HB6 := Aside0.mk (HB5.out.trans hk6.below)
  have H6 := Aside0.mk h6
  have HR6 : Aside0 (recK.C w6 A5 ls1.length ls1) := ⟨RW.C (RW.move HR5.out hkp6) (by have := HLS.out; omega)⟩
  have HSM := Aside0.mk (same_calls w6 ls1 ls1 A5 A6 c5 c6 HR6.out hc6 (fun r hr => (HSO.out.2 r hr).2) (fun r hr => (HSO.out.2 r hr).2))
  rw [show sameB ls1 ls1 = true by simp [sameB]] at HSM
  clear h6 hc6 hk6 hkp6 HO2
  go_wp2_with fail
  refine HSM.out.mono ?_
  rintro e w7 ⟨rfl, hb7⟩
  have HB7 := Aside0.mk (HB6.out.trans (hb7.mono HB6.out.size))
  have H7 : Aside0 (TwoL w.heap.size w7 q p t1.opened ls1 y x t1.opened ls1 (fun _ => False)) := ⟨H6.out.below hb7 (fun _ h => h.elim) (fun _ h => h.elim)⟩
  have HS7 : Aside0 (Sound t1.opened ls1 ∧ t1.opened.room = room) := ⟨HSO.out, HR1.out⟩
  obtain ⟨t7, ht7⟩ : ∃ t7, t7 = t1.opened := ⟨_, rfl⟩
  rw [← ht7] at H7 HS7
  clear hb7 HSM ht7
  go_wp2_with fail
  go_loopw [11, 14, 16] (fun v11 v14 v16 wr => ∃ (i : Nat) (t : TS) (ls : List Rc) (q y : Nat), i ≤ l.length ∧ i ≤ 20 ∧ v11 = .pointer (some ⟨q, 0, none⟩) ∧ v14 = .pointer (some ⟨y, 0, none⟩) ∧ v16 = .int .i64 i ∧ Aside0 (Below w.heap.size w wr) ∧ Aside0 (TwoL w.heap.size wr q p t ls y x t ls (fun _ => False)) ∧ Aside0 (Sound t ls ∧ t.room = room)) (fun _ _ v _ => l.length - (intOf v).toNat)
  case atStart => exact ⟨0, t7, ls1, q, y, by omega, by omega, rfl, rfl, rfl, HB7, H7, HS7⟩
  case round =>
    obtain ⟨i, t, ls, q, y, hi, hi20, rfl, rfl, rfl, HB, HT, HS⟩ := hrel
    have hcase : (i < l.length ∧ i < 20) ∨ i = l.length ∨ (i < l.length ∧ i = 20) := by omega
    rcases hcase with ⟨hlt, h20⟩ | hend
    · obtain ⟨ad, B, c1, E, d1, rfl, k0, k1, k2, k3, k4, k5, hcap, hrd, hrl⟩ := wop_at HL.out hlt (0, 0, (0, []), false, [])
      have HM : Aside0 (l.getD i (0, 0, (0, []), false, []) ∈ l) := ⟨by rw [List.getD_eq_getElem?_getD, List.getElem?_eq_getElem hlt]; exact List.getElem_mem hlt⟩
      have HOI := Aside0.mk (HOK.out _ HM.out)
      obtain ⟨o, ho⟩ : ∃ o, o = l.getD i (0, 0, (0, []), false, []) := ⟨_, rfl⟩
      rw [← ho] at k0 k1 k2 k3 k4 k5 hcap hrd hrl HOI
      clear ho HM
      obtain ⟨kd, nn, ⟨rk, b⟩, ff, l4⟩ := o
      dsimp only at k0 k1 k2 k3 k4 k5 hcap hrd hrl
      have HRD := Aside0.mk hrd
      have HRL := Aside0.mk hrl
      have HCAP := Aside0.mk hcap
      have HC : Aside0 (∀ W, Below w.heap.size w W → W.cell? (ad.add (i * 6)) = some (.int .i64 kd) ∧ W.cell? ⟨(ad.add (i * 6)).block, (ad.add (i * 6)).off + 1, none⟩ = some (.int .i64 nn) ∧ W.cell? ⟨(ad.add (i * 6)).block, (ad.add (i * 6)).off + 2, none⟩ = some (.int .i64 rk) ∧ W.cell? ⟨(ad.add (i * 6)).block, (ad.add (i * 6)).off + 3, none⟩ = some (.slice B b.length c1) ∧ W.cell? ⟨(ad.add (i * 6)).block, (ad.add (i * 6)).off + 4, none⟩ = some (.bool ff) ∧ W.cell? ⟨(ad.add (i * 6)).block, (ad.add (i * 6)).off + 5, none⟩ = some (.slice E l4.length d1)) := ⟨fun W hW =>
        ⟨(hW.cell (World.block_lt_of_cell? _ _ k0)).trans k0, (hW.cell (World.block_lt_of_cell? _ _ k1)).trans k1, (hW.cell (World.block_lt_of_cell? _ _ k2)).trans k2, (hW.cell (World.block_lt_of_cell? _ _ k3)).trans k3, (hW.cell (World.block_lt_of_cell? _ _ k4)).trans k4, (hW.cell (World.block_lt_of_cell? _ _ k5)).trans k5⟩⟩
      clear hrd hrl hcap k0 k1 k2 k3 k4 k5
      obtain ⟨k0, k1, k2, k3, k4, k5⟩ := HC.out _ HB.out
      obtain ⟨q0, hq0⟩ : ∃ q0, q0 = wr.heap.size := ⟨_, rfl⟩
      obtain ⟨w0, hw0⟩ : ∃ w0, w0 = wr.alloc (.cells #[.int .i64 kd, .int .i64 nn, .int .i64 rk, .slice B b.length c1, .bool ff, .slice E l4.length d1] 68) := ⟨_, rfl⟩
      have hb0 : Below wr.heap.size wr w0 := by rw [hw0]; exact below_alloc (Below.refl _ _) _
      have hh0 : w0.heap[q0]? = some (.cells #[.int .i64 kd, .int .i64 nn, .int .i64 rk, .slice B b.length c1, .bool ff, .slice E l4.length d1] 68 (0, 0)) := by rw [hw0, hq0]; exact heap_alloc_new wr _
      have HW0 := Aside0.mk hw0
      have HQ0 := Aside0.mk hq0
      have HB0 := Aside0.mk (HB.out.trans (hb0.mono HB.out.size))
      have HH0 := Aside0.mk hh0
      have HT0 : Aside0 (TwoL w.heap.size w0 q p t ls y x t ls (fun k => k = q0)) := ⟨HT.out.below hb0 (fun k h => .inl (by rw [h, hq0]; exact Nat.le_refl _)) (fun k h => by rw [h]; exact (Array.getElem?_eq_some_iff.1 hh0).1)⟩
      have HLG : Aside0 (∀ W, Calls Try.prog 28 #[.agg #[.int .i64 rk, .slice B b.length c1]] W fun e w' => e = .returned (.bool (longB b.length)) ∧ Below W.heap.size W w') := ⟨fun W => long_calls W rk B b.length c1 HOI.out.2.2.1.2.2⟩
      have HGR : Aside0 (∀ W, Below w.heap.size w W → Calls Try.prog 18 #[.slice E l4.length d1] W fun e w' => e = .returned (.bool (greatB l4)) ∧ Below W.heap.size W w') := ⟨fun W hW => great_calls W l4 E d1 (Kd.C_below HRL.out hW) HOI.out.2.2.2⟩
      obtain ⟨c00, c01, c02, c03, c04, c05⟩ := six_cells hh0
      clear hw0 hq0 hb0 hh0
      have hcs : longB b.length = true ∨ (longB b.length = false ∧ greatB l4 = true) ∨ (longB b.length = false ∧ greatB l4 = false) := by
        cases longB b.length <;> cases greatB l4 <;> simp
      rcases hcs with hg | ⟨hg, hg2⟩ | ⟨hg, hg2⟩
      · rw [hg] at HLG
        clear hg
        go_wp2_with fail
        rw [← HW0.out, ← HQ0.out]
        go_wp2_with fail
        refine (HLG.out _).mono ?_
        rintro e w8 ⟨rfl, hb8⟩
        have HB8 := Aside0.mk (HB0.out.trans (hb8.mono HB0.out.size))
        clear hb8
        go_wp2_with fail
        refine (alive_calls _).mono ?_
        rintro e w9 ⟨rfl, hb9⟩
        have HB9 := Aside0.mk (HB8.out.trans (hb9.mono HB8.out.size))
        clear hb9
        go_wp2_with fail
        go_ret
        exact ⟨rfl, HB9.out⟩
      · rw [hg] at HLG
        rw [hg2] at HGR
        clear hg hg2
        go_wp2_with fail
        rw [← HW0.out, ← HQ0.out]
        go_wp2_with fail
        refine (HLG.out _).mono ?_
        rintro e w8 ⟨rfl, hb8⟩
        have HB8 := Aside0.mk (HB0.out.trans (hb8.mono HB0.out.size))
        have x5 := (six_cells (blk_keep HH0.out hb8)).2.2.2.2.2
        clear hb8
        go_wp2_with fail
        refine (HGR.out _ HB8.out).mono ?_
        rintro e w10 ⟨rfl, hb10⟩
        have HB10 := Aside0.mk (HB8.out.trans (hb10.mono HB8.out.size))
        clear hb10
        go_wp2_with fail
        refine (alive_calls _).mono ?_
        rintro e w9 ⟨rfl, hb9⟩
        have HB9 := Aside0.mk (HB10.out.trans (hb9.mono HB10.out.size))
        clear hb9
        go_wp2_with fail
        go_ret
        exact ⟨rfl, HB9.out⟩
      · rw [hg] at HLG
        rw [hg2] at HGR
        have hl20 := (great_no hg2).1
        clear hg hg2
        go_wp2_with fail
        rw [← HW0.out, ← HQ0.out]
        go_wp2_with fail
        refine (HLG.out _).mono ?_
        rintro e w8 ⟨rfl, hb8⟩
        have HB8 := Aside0.mk (HB0.out.trans (hb8.mono HB0.out.size))
        have HH8 := Aside0.mk (blk_keep HH0.out hb8)
        have HT8 : Aside0 (TwoL w.heap.size w8 q p t ls y x t ls (fun k => k = q0)) := ⟨HT0.out.below hb8 (fun k h => .inr h) (fun k h => by rw [h]; exact (Array.getElem?_eq_some_iff.1 HH8.out).1)⟩
        have x5 := (six_cells HH8.out).2.2.2.2.2
        clear hb8 k0 k1 k2 k3 k4 k5 c00 c01 c02 c03 c04 c05
        go_wp2_with fail
        refine (HGR.out _ HB8.out).mono ?_
        rintro e w10 ⟨rfl, hb10⟩
        have HB10 := Aside0.mk (HB8.out.trans (hb10.mono HB8.out.size))
        have HH10 := Aside0.mk (blk_keep HH8.out hb10)
        have HT10 : Aside0 (TwoL w.heap.size w10 q p t ls y x t ls (fun k => k = q0)) := ⟨HT8.out.below hb10 (fun k h => .inr h) (fun k h => by rw [h]; exact (Array.getElem?_eq_some_iff.1 HH10.out).1)⟩
        clear hb10 x5 HT0 HT8 HB0 HB8 HH0 HH8 HLG HGR
        obtain ⟨c00, c01, c02, c03, c04, c05⟩ := six_cells HH10.out
        go_upto_if 88 with (fail)
        go_cut [11, 12, 13, 14, 15] from 67 to 192 (fun v11 v12 v13 v14 v15 wx => v11 = .pointer (some ⟨q, 0, none⟩) ∧ v14 = .pointer (some ⟨y, 0, none⟩) ∧ w10 = wx)
        case first =>
          go_wp2_with fail
          go_meet
          exact ⟨rfl, rfl, rfl⟩
        case rest =>
          obtain ⟨rfl, rfl, rfl⟩ := hcut
          go_at_K
          go_step
          go_step
          go_cut [11, 12, 13, 14, 15] from 67 to 192 (fun v11 v12 v13 v14 v15 wx => ∃ (t2 : TS) (s2 : List Rc) (q y : Nat), v11 = .pointer (some ⟨q, 0, none⟩) ∧ v14 = .pointer (some ⟨y, 0, none⟩) ∧ Aside0 (Below w.heap.size w wx) ∧ Aside0 (TwoL w.heap.size wx q p t2 s2 y x t2 s2 (fun _ => False)) ∧ Aside0 (Sound t2 s2 ∧ t2.room = room))
          case first =>
            have hokt := (LgAt.ok (Exists.choose_spec HT10.out).1)
            have HLN : Aside0 (ls.length ≤ 65536) := ⟨Nat.le_trans (sound_len HS.out.1) (Nat.le_trans hokt.2.2.1 hokt.2.1)⟩
            have HKT := Aside0.mk hokt
            have HBD : Aside0 (Below w.heap.size w w10.drew) := ⟨below_drew HB10.out⟩
            have HTD : Aside0 (TwoL w.heap.size w10.drew q p t ls y x t ls (fun k => k = q0)) := ⟨HT10.out.below (below_drew (Below.refl _ _)) (fun k h => .inr h) (fun k h => by rw [h]; exact (Array.getElem?_eq_some_iff.1 HH10.out).1)⟩
            have HHD : Aside0 (w10.drew.heap[q0]? = some (.cells #[.int .i64 kd, .int .i64 nn, .int .i64 rk, .slice B b.length c1, .bool ff, .slice E l4.length d1] 68 (0, 0))) := ⟨HH10.out⟩
            clear hokt
            by_cases h0 : kd = 0
            · have hk0 : (kd == 0) = true := by simp [h0]
              have hsd := addP_sound HS.out.1 (r := (rk, b)) HOI.out.2.2.1.2.1 ff
              have HSD : Aside0 (Sound (addP t ls (rk, b) ff).1 (addP t ls (rk, b) ff).2.1 ∧ (addP t ls (rk, b) ff).1.room = room) := ⟨hsd.1, by rw [hsd.2.2.2.2.2]; exact HS.out.2⟩
              have HQX : Aside0 ((fun k => k = q0) q0) := ⟨rfl⟩
              obtain ⟨r2, hr2⟩ : ∃ r2, r2 = addP t ls (rk, b) ff := ⟨_, rfl⟩
              have HR2 := Aside0.mk hr2
              rw [← hr2] at HSD
              obtain ⟨t2, s2, er⟩ := r2
              dsimp only at HSD
              clear hsd hr2
              have HC0 : Aside0 (∀ W, Below w.heap.size w W → TwoL w.heap.size W q p t ls y x t ls (fun k => k = q0) → W.heap[q0]? = some (.cells #[.int .i64 kd, .int .i64 nn, .int .i64 rk, .slice B b.length c1, .bool ff, .slice E l4.length d1] 68 (0, 0)) → Calls Try.prog 14 #[.slice B b.length c1] W (fun e W' => ∃ A8 c8 X, e = .returned (.slice A8 b.length c8) ∧ b.length ≤ c8 ∧ X q0 ∧ TwoL w.heap.size W' q p t ls y x t ls X ∧ (∀ W2, KX w.heap.size W' X W2 → Kd.C (Kd.int .u8) W2 A8 b.length b) ∧ W'.heap[q0]? = some (.cells #[.int .i64 kd, .int .i64 nn, .int .i64 rk, .slice B b.length c1, .bool ff, .slice E l4.length d1] 68 (0, 0)) ∧ Below w.heap.size w W')) := ⟨fun W hW hT hh => by
                refine (copy_calls W B c1 b (Kd.C_below HRD.out hW) HOI.out.2.2.1.2.2).mono ?_
                rintro e W' ⟨v, rfl, ho, hb⟩
                have hql := (Array.getElem?_eq_some_iff.1 hh).1
                obtain ⟨A8, c8, rfl, _⟩ := ho.reads
                refine ⟨A8, c8, fun k => k = q0 ∨ (Value.slice A8 b.length c8).ownBlock = some k, rfl, OB.cap ho, .inl rfl, hT.below hb (fun k h => h.elim .inr (fun h => .inl (own_base ho k h))) (fun k h => h.elim (fun h => by rw [h]; exact Nat.lt_of_lt_of_le hql hb.size) (own_lt ho k)), fun W2 hK => ?_, blk_keep hh hb, hW.trans (hb.mono hW.size)⟩
                have hm2 : OB W2 W.heap.size (.slice A8 b.length c8) b := own_move ho (fun k e => hK.block k (.inr e) (own_lt ho k e))
                obtain ⟨A', c', e', hC⟩ := hm2.reads
                injection e' with e1 _ _
                rw [e1]
                exact hC⟩
              have HC1 : Aside0 (∀ W X A8 c8, TwoL w.heap.size W q p t ls y x t ls X → Below w.heap.size w W → X q0 → W.heap[q0]? = some (.cells #[.int .i64 kd, .int .i64 nn, .int .i64 rk, .slice B b.length c1, .bool ff, .slice E l4.length d1] 68 (0, 0)) → (∀ W2, KX w.heap.size W X W2 → Kd.C (Kd.int .u8) W2 A8 b.length b) → b.length ≤ c8 → Calls Try.prog 25 #[.pointer (some ⟨q, 0, none⟩), .agg #[.int .i64 rk, .slice A8 b.length c8], .bool ff] W (fun e W' => e = .returned (.int .i64 er) ∧ TwoL w.heap.size W' q p t2 s2 y x t ls X ∧ X q0 ∧ W'.heap[q0]? = some (.cells #[.int .i64 kd, .int .i64 nn, .int .i64 rk, .slice B b.length c1, .bool ff, .slice E l4.length d1] 68 (0, 0)) ∧ Below w.heap.size w W')) := ⟨fun W X A8 c8 hT hW hX hh hr hc => by
                refine (hT.real (r := addP t ls (rk, b) ff) (fun ex hl hx hXe => add_calls W w.heap.size q p t ls ex (rk, b) A8 c8 ff hl hx hW.size (fun W2 hK => hr W2 (hK.sub hXe)) hc HOI.out.2.2.1.2.1 (by have := HLN.out; omega))).mono ?_
                rintro e W' ⟨rfl, hT', hK⟩
                rw [← HR2.out] at hT' ⊢
                exact ⟨rfl, hT', hX, (hK.block q0 hX (Array.getElem?_eq_some_iff.1 hh).1).trans hh, hW.trans hK.below⟩⟩
              have HC2 : Aside0 (∀ W X, TwoL w.heap.size W q p t2 s2 y x t ls X → Below w.heap.size w W → X q0 → W.heap[q0]? = some (.cells #[.int .i64 kd, .int .i64 nn, .int .i64 rk, .slice B b.length c1, .bool ff, .slice E l4.length d1] 68 (0, 0)) → Calls Try.prog 34 #[.pointer (some ⟨y, 0, none⟩), .agg #[.int .i64 rk, .slice B b.length c1], .bool ff] W (fun e W' => e = .returned (.int .i64 er) ∧ TwoL w.heap.size W' q p t2 s2 y x t2 s2 (fun _ => False) ∧ W'.heap[q0]? = some (.cells #[.int .i64 kd, .int .i64 nn, .int .i64 rk, .slice B b.length c1, .bool ff, .slice E l4.length d1] 68 (0, 0)) ∧ Below w.heap.size w W')) := ⟨fun W X hT hW hX hh => by
                refine (hT.model (u' := (addP t ls (rk, b) ff).1) (us' := (addP t ls (rk, b) ff).2.1) (n := (addP t ls (rk, b) ff).2.2) (fun H hm hH => radd_calls W w.heap.size y x t ls H (rk, b) B c1 ff hm hH hW.size (fun W2 hK => Kd.C_below HRD.out (hW.trans hK)) HCAP.out HOI.out.2.2.1.2.1 (by have := HLN.out; omega))).mono ?_
                rintro e W' ⟨rfl, hT', hK⟩
                rw [← HR2.out] at hT' ⊢
                exact ⟨rfl, hT'.below (Below.refl _ _) (fun _ h => h.elim) (fun _ h => h.elim), (hK.block q0 hX (Array.getElem?_eq_some_iff.1 hh).1).trans hh, hW.trans hK.below⟩⟩
              have HCQ : Aside0 (∀ W : World, W.heap[q0]? = some (.cells #[.int .i64 kd, .int .i64 nn, .int .i64 rk, .slice B b.length c1, .bool ff, .slice E l4.length d1] 68 (0, 0)) → W.cell? ⟨q0, 2, none⟩ = some (.int .i64 rk) ∧ W.cell? ⟨q0, 3, none⟩ = some (.slice B b.length c1) ∧ W.cell? ⟨q0, 4, none⟩ = some (.bool ff)) := ⟨fun W h => by
                obtain ⟨_, _, e2, e3, e4, _⟩ := six_cells h
                exact ⟨e2, e3, e4⟩⟩
              have hee : (er != er) = false := bne_self_eq_false _
              go_wp2_with fail
              go_region_held_law (fun W => W.cell? ⟨q0, 2, none⟩ = some (.int .i64 rk) ∧ W.cell? ⟨q0, 3, none⟩ = some (.slice B b.length c1) ∧ W.cell? ⟨q0, 4, none⟩ = some (.bool ff)) (exact HCQ.out _ (Aside0.out (by assumption)))
                (first
                 | (go_at_call 14; refine (HC0.out _ (Aside0.out (by assumption)) (Aside0.out (by assumption)) (Aside0.out (by assumption))).mono ?_; rintro e wa ⟨A8, c8, X8, rfl, hca, hxa, hta, hra, hha, hba⟩; have HCA := Aside0.mk hca; have HXA := Aside0.mk hxa; have HTa := Aside0.mk hta; have HRa := Aside0.mk hra; have HHa := Aside0.mk hha; have HBa := Aside0.mk hba; clear hca hxa hta hra hha hba)
                 | (go_at_call 25; refine (HC1.out _ _ _ _ (Aside0.out (by assumption)) (Aside0.out (by assumption)) HXA.out (Aside0.out (by assumption)) HRa.out HCA.out).mono ?_; rintro e wb ⟨rfl, htb, hxb, hhb, hbb⟩; have HTb := Aside0.mk htb; have HXB := Aside0.mk hxb; have HHb := Aside0.mk hhb; have HBb := Aside0.mk hbb; clear htb hxb hhb hbb)
                 | (go_at_call 34; refine (HC2.out _ _ (Aside0.out (by assumption)) (Aside0.out (by assumption)) HXB.out (Aside0.out (by assumption))).mono ?_; rintro e wd ⟨rfl, htd, hhd, hbd⟩; have HTe := Aside0.mk htd; have HHe := Aside0.mk hhd; have HBe := Aside0.mk hbd; clear htd hhd hbd))
              all_goals
                go_wp2_with fail
                go_meet
                exact ⟨t2, s2, q, y, rfl, rfl, HBe, HTe, HSD⟩
            · have hk0 : (kd == 0) = false := by simpa using h0
              by_cases h1 : kd = 1
              · have hk1 : (kd == 1) = true := by simp [h1]
                have hsd := swapP_sound (l := l4) HS.out.1 (fun r hr => (HOI.out.2.2.2 r hr).2.1)
                have HSD : Aside0 (Sound (swapP t ls l4).1 (swapP t ls l4).2.1 ∧ (swapP t ls l4).1.room = room) := ⟨hsd.1, by rw [hsd.2]; exact HS.out.2⟩
                obtain ⟨r2, hr2⟩ : ∃ r2, r2 = swapP t ls l4 := ⟨_, rfl⟩
                have HR2 := Aside0.mk hr2
                rw [← hr2] at HSD
                obtain ⟨t2, s2, er⟩ := r2
                dsimp only at HSD
                clear hsd hr2
                have HC1 : Aside0 (∀ W, TwoL w.heap.size W q p t ls y x t ls (fun k => k = q0) → Below w.heap.size w W → W.heap[q0]? = some (.cells #[.int .i64 kd, .int .i64 nn, .int .i64 rk, .slice B b.length c1, .bool ff, .slice E l4.length d1] 68 (0, 0)) → Calls Try.prog 29 #[.pointer (some ⟨q, 0, none⟩), .slice E l4.length d1] W (fun e W' => e = .returned (.int .i64 er) ∧ TwoL w.heap.size W' q p t2 s2 y x t ls (fun k => k = q0) ∧ W'.heap[q0]? = some (.cells #[.int .i64 kd, .int .i64 nn, .int .i64 rk, .slice B b.length c1, .bool ff, .slice E l4.length d1] 68 (0, 0)) ∧ Below w.heap.size w W')) := ⟨fun W hT hW hh => by
                  refine (hT.real (r := swapP t ls l4) (fun ex hl hx hXe => lswap_calls W w.heap.size q p t ls ex l4 E d1 hl hx hW.size (fun W2 hK => Kd.C_below HRL.out (hW.trans hK.below)) HOI.out.2.2.2 (by omega))).mono ?_
                  rintro e W' ⟨rfl, hT', hK⟩
                  rw [← HR2.out] at hT' ⊢
                  exact ⟨rfl, hT', (hK.block q0 rfl (Array.getElem?_eq_some_iff.1 hh).1).trans hh, hW.trans hK.below⟩⟩
                have HC2 : Aside0 (∀ W, TwoL w.heap.size W q p t2 s2 y x t ls (fun k => k = q0) → Below w.heap.size w W → W.heap[q0]? = some (.cells #[.int .i64 kd, .int .i64 nn, .int .i64 rk, .slice B b.length c1, .bool ff, .slice E l4.length d1] 68 (0, 0)) → Calls Try.prog 35 #[.pointer (some ⟨y, 0, none⟩), .slice E l4.length d1] W (fun e W' => e = .returned (.int .i64 er) ∧ TwoL w.heap.size W' q p t2 s2 y x t2 s2 (fun _ => False) ∧ W'.heap[q0]? = some (.cells #[.int .i64 kd, .int .i64 nn, .int .i64 rk, .slice B b.length c1, .bool ff, .slice E l4.length d1] 68 (0, 0)) ∧ Below w.heap.size w W')) := ⟨fun W hT hW hh => by
                  refine (hT.model (u' := (swapP t ls l4).1) (us' := (swapP t ls l4).2.1) (n := (swapP t ls l4).2.2) (fun H hm hH => rlswap_calls w W y x t ls H l4 E d1 hm hH hW HRL.out HOI.out.2.2.2 (by omega))).mono ?_
                  rintro e W' ⟨rfl, hT', hK⟩
                  rw [← HR2.out] at hT' ⊢
                  exact ⟨rfl, hT'.below (Below.refl _ _) (fun _ h => h.elim) (fun _ h => h.elim), (hK.block q0 rfl (Array.getElem?_eq_some_iff.1 hh).1).trans hh, hW.trans hK.below⟩⟩
                have HCQ : Aside0 (∀ W : World, W.heap[q0]? = some (.cells #[.int .i64 kd, .int .i64 nn, .int .i64 rk, .slice B b.length c1, .bool ff, .slice E l4.length d1] 68 (0, 0)) → W.cell? ⟨q0, 5, none⟩ = some (.slice E l4.length d1)) := ⟨fun W h => (six_cells h).2.2.2.2.2⟩
                have hee : (er != er) = false := bne_self_eq_false _
                go_wp2_with fail
                go_region_held_law (fun W => W.cell? ⟨q0, 5, none⟩ = some (.slice E l4.length d1)) (exact HCQ.out _ (Aside0.out (by assumption)))
                  (first
                   | (go_at_call 29; refine (HC1.out _ (Aside0.out (by assumption)) (Aside0.out (by assumption)) (Aside0.out (by assumption))).mono ?_; rintro e wb ⟨rfl, htb, hhb, hbb⟩; have HTb := Aside0.mk htb; have HHb := Aside0.mk hhb; have HBb := Aside0.mk hbb; clear htb hhb hbb)
                   | (go_at_call 35; refine (HC2.out _ (Aside0.out (by assumption)) (Aside0.out (by assumption)) (Aside0.out (by assumption))).mono ?_; rintro e wd ⟨rfl, htd, hhd, hbd⟩; have HTe := Aside0.mk htd; have HHe := Aside0.mk hhd; have HBe := Aside0.mk hbd; clear htd hhd hbd))
                all_goals
                  go_wp2_with fail
                  go_meet
                  exact ⟨t2, s2, q, y, rfl, rfl, HBe, HTe, HSD⟩
              · have hk1 : (kd == 1) = false := by simpa using h1
                by_cases h2 : kd = 2
                · have hk2 : (kd == 2) = true := by simp [h2]
                  have HA1 := Aside0.mk (HT10.out.tapes.real (fun F hF => crash_calls w10 p t F nn hF HOI.out.2.1))
                  go_wp2_with fail
                  refine HA1.out.mono ?_
                  rintro e w11 ⟨rfl, h3, hk3⟩
                  have HB11 := Aside0.mk (HB10.out.trans hk3.below)
                  have HH11 := Aside0.mk ((hk3.block q0 rfl (Array.getElem?_eq_some_iff.1 HH10.out).1).trans HH10.out)
                  have HA2 := Aside0.mk (h3.ref (fun T hT => rcrash_calls w11 x t T nn hT))
                  have y01 := (six_cells HH11.out).2.1
                  have hcr : (t.crash nn).room = room := HS.out.2
                  obtain ⟨t1, ht1⟩ : ∃ t1, t1 = t.crash nn := ⟨_, rfl⟩
                  rw [← ht1] at HA2 hcr
                  have HR1 := Aside0.mk hcr
                  clear h3 hk3 HA1 hcr ht1
                  go_wp2_with fail
                  refine HA2.out.mono ?_
                  rintro e w12 ⟨rfl, h4, hk4⟩
                  have HB12 := Aside0.mk (HB11.out.trans hk4.below)
                  have HO1 := Aside0.mk (h4.opens)
                  have HK1 : Aside0 t1.ok := ⟨by obtain ⟨F, T, ⟨_, _, _, _, _, _, h⟩, _⟩ := h4; exact h⟩
                  clear h4 hk4 HA2 y01
                  go_wp2_with fail
                  refine HO1.out.mono ?_
                  rintro e w13 ⟨q2, A5, c5, rfl, h5, hr5, hk5⟩
                  have HB13 := Aside0.mk (HB12.out.trans hk5.below)
                  have HR5 := Aside0.mk hr5
                  have HO2 := Aside0.mk (h5.opens)
                  have HSO := Aside0.mk (opened_sound HK1.out)
                  have HLS : Aside0 ((recsOf t1.bs).length ≤ 65536) := ⟨recs_le (Nat.le_trans HK1.out.2.2.1 HK1.out.2.1)⟩
                  obtain ⟨ls1, hls1⟩ : ∃ ls1, ls1 = recsOf t1.bs := ⟨_, rfl⟩
                  rw [← hls1] at HO2 HR5 HSO HLS ⊢
                  clear h5 hr5 hk5 HO1 hls1
                  go_wp2_with fail
                  refine HO2.out.mono ?_
                  rintro e w14 ⟨y2, A6, c6, rfl, h6, hc6, hk6, hkp6⟩
                  have HB14 := Aside0.mk (HB13.out.trans hk6.below)
                  have HR6 : Aside0 (recK.C w14 A5 ls1.length ls1) := ⟨RW.C (RW.move HR5.out hkp6) (by have := HLS.out; omega)⟩
                  have H6 := Aside0.mk h6
                  have HSM := Aside0.mk (same_calls w14 ls1 ls1 A5 A6 c5 c6 HR6.out hc6 (fun r hr => (HSO.out.2 r hr).2) (fun r hr => (HSO.out.2 r hr).2))
                  rw [show sameB ls1 ls1 = true by simp [sameB]] at HSM
                  clear h6 hc6 hk6 hkp6 HO2
                  go_wp2_with fail
                  refine HSM.out.mono ?_
                  rintro e w15 ⟨rfl, hb15⟩
                  have HB15 := Aside0.mk (HB14.out.trans (hb15.mono HB14.out.size))
                  have H15 : Aside0 (TwoL w.heap.size w15 q2 p t1.opened ls1 y2 x t1.opened ls1 (fun _ => False)) := ⟨H6.out.below hb15 (fun _ h => h.elim) (fun _ h => h.elim)⟩
                  clear hb15 HSM
                  go_wp2_with fail
                  go_meet
                  exact ⟨t1.opened, ls1, q2, y2, rfl, rfl, HB15, H15, ⟨HSO.out, HR1.out⟩⟩
                · have hk2 : (kd == 2) = false := by simpa using h2
                  go_wp2_with fail
                  go_meet
                  exact ⟨t, ls, q, y, rfl, rfl, HB10, ⟨HT10.out.below (Below.refl _ _) (fun _ h => h.elim) (fun _ h => h.elim)⟩, HS⟩
          case rest =>
            obtain ⟨t2, s2, q, y, rfl, rfl, HBE, HTE, HSE⟩ := hcut
            obtain ⟨wE, hwE⟩ : ∃ wE, wE = wc := ⟨_, rfl⟩
            subst hwE
            clear HT10 HB10 HH10 c00 c01 c02 c03 c04 c05 HT HB HS HRD HRL HCAP HC
            have hok2 := (LgAt.ok (Exists.choose_spec HTE.out).1)
            have HLN : Aside0 (s2.length ≤ 65536) := ⟨Nat.le_trans (sound_len HSE.out.1) (Nat.le_trans hok2.2.2.1 hok2.2.1)⟩
            obtain ⟨H, hl, hm, _⟩ := HTE.out
            obtain ⟨F, G, hta, hlo, _⟩ := hl
            obtain ⟨T, L, D, vy, hrf, hhy, hmr, _⟩ := hm
            obtain ⟨Ay, cy, rfl, _⟩ := hmr.form
            obtain ⟨Ax, cx, ex1⟩ : ∃ A d, wE.cell? ⟨x, 1, none⟩ = some (.slice A t2.forced d) := by
              obtain ⟨v1, v2, xs, ys, h1, h2, hh, ho1, _⟩ := hrf
              obtain ⟨A, d, rfl, _⟩ := ho1.reads
              exact ⟨A, d, by rw [h2]; exact (three_cells hh).2.1⟩
            have ey1 := (two_cells' hhy).2.1
            obtain ⟨n2, hn2⟩ : ∃ n2, n2 = s2.length := ⟨_, rfl⟩
            have HC2Y := Aside0.mk (hmr.C (by have := HLN.out; omega))
            rw [← hn2] at ey1 HC2Y
            have HEC : Aside0 (∀ W, Below wE.heap.size wE W → W.cell? ⟨y, 1, none⟩ = some (.slice Ay n2 cy) ∧ W.cell? ⟨x, 1, none⟩ = some (.slice Ax t2.forced cx)) := ⟨fun W hW => ⟨(hW.cell (World.block_lt_of_cell? _ _ ey1)).trans ey1, (hW.cell (World.block_lt_of_cell? _ _ ex1)).trans ex1⟩⟩
            have HBD : Aside0 (Below wE.heap.size wE wE.drew) := ⟨below_drew (Below.refl _ _)⟩
            have HLR := Aside0.mk hlo
            have HTA := Aside0.mk hta
            have HRF := Aside0.mk hrf
            have HRCS : Aside0 (∀ W, Below wE.heap.size wE W → Calls Try.prog 26 #[.pointer (some ⟨q, 0, none⟩)] W (fun e W' => ∃ A c, e = .returned (.slice A n2 c) ∧ recK.C W' A n2 s2 ∧ Below wE.heap.size wE W')) := ⟨fun W hW => by
              refine (records_calls W q p s2 G (HLR.out.below hW) (fun r hr => by have := (HSE.out.1.2 r hr).1.2.2; omega) (by have := HLN.out; omega)).mono ?_
              rintro e W' ⟨v, rfl, hr, hb⟩
              obtain ⟨A, c, rfl⟩ := hr.form
              exact ⟨A, c, by rw [hn2], by rw [hn2]; exact RW.C hr (by have := HLN.out; omega), hW.trans (hb.mono hW.size)⟩⟩
            have HSMS : Aside0 (∀ W A c, Below wE.heap.size wE W → recK.C W A n2 s2 → Calls Try.prog 17 #[.slice A n2 c, .slice Ay n2 cy] W (fun e W' => e = .returned (.bool true) ∧ Below wE.heap.size wE W')) := ⟨fun W A c hW hC => by
              have hC2 := Kd.C_below HC2Y.out hW
              rw [hn2] at hC hC2 ⊢
              refine (same_calls W s2 s2 A Ay c cy hC hC2 (fun r hr => (HSE.out.1.2 r hr).2) (fun r hr => (HSE.out.1.2 r hr).2)).mono ?_
              rintro e W' ⟨rfl, hb⟩
              exact ⟨by rw [show sameB s2 s2 = true by simp [sameB]], hW.trans (hb.mono hW.size)⟩⟩
            obtain ⟨S, hS⟩ : ∃ S, S = strOfNums t2.bs := ⟨_, rfl⟩
            have HBTS : Aside0 (∀ W, Below wE.heap.size wE W → Calls Try.prog 22 #[.pointer (some ⟨p, 0, none⟩)] W (fun e W' => ∃ A n c, e = .returned (.slice A n c) ∧ (∀ W2, Below W'.heap.size W' W2 → (convert 22 9 (.slice A n c)).run Try.prog W2 = .ok (.string S) W2) ∧ Below wE.heap.size wE W')) := ⟨fun W hW => by
              refine (bytes_calls W p t2 F (HTA.out.below hW)).mono ?_
              rintro e W' ⟨v, rfl, ho, hb⟩
              have hst : ∀ W2, Below W'.heap.size W' W2 → (convert 22 9 v).run Try.prog W2 = .ok (.string S) W2 := fun W2 h2 => by rw [hS]; exact (ho.below h2).string
              obtain ⟨A, c, rfl, _⟩ := ho.reads
              exact ⟨A, _, c, rfl, hst, hW.trans (hb.mono hW.size)⟩⟩
            have HBRS : Aside0 (∀ W, Below wE.heap.size wE W → Calls Try.prog 37 #[.pointer (some ⟨x, 0, none⟩)] W (fun e W' => ∃ A n c, e = .returned (.slice A n c) ∧ (convert 22 9 (.slice A n c)).run Try.prog W' = .ok (.string S) W' ∧ Below W.heap.size W W' ∧ Below wE.heap.size wE W')) := ⟨fun W hW => by
              refine (rbytes_calls W x t2 T (HRF.out.below hW)).mono ?_
              rintro e W' ⟨v, rfl, ho, hb⟩
              have hst : (convert 22 9 v).run Try.prog W' = .ok (.string S) W' := by rw [hS]; exact ho.string
              obtain ⟨A, c, rfl, _⟩ := ho.reads
              exact ⟨A, _, c, rfl, hst, hb, hW.trans (hb.mono hW.size)⟩⟩
            have HFCS : Aside0 (∀ W, Below wE.heap.size wE W → Calls Try.prog 23 #[.pointer (some ⟨p, 0, none⟩)] W (fun e W' => e = .returned (.int .i64 t2.forced) ∧ W' = W)) := ⟨fun W hW => forced_calls W p t2 F (HTA.out.below hW)⟩
            have HLNS : Aside0 (∀ W, Below wE.heap.size wE W → Calls Try.prog 24 #[.pointer (some ⟨p, 0, none⟩)] W (fun e W' => e = .returned (.int .i64 t2.bs.length) ∧ W' = W)) := ⟨fun W hW => len_calls W p t2 F (HTA.out.below hW)⟩
            have HRMS : Aside0 (∀ W, Below wE.heap.size wE W → Calls Try.prog 30 #[.pointer (some ⟨q, 0, none⟩)] W (fun e W' => e = .returned (.int .i64 (IntKind.i64.wrap ((room : Int) - t2.bs.length))) ∧ Below wE.heap.size wE W')) := ⟨fun W hW => by
              obtain ⟨H, hl, _⟩ := HTE.out
              refine (lroom_calls W w.heap.size q p t2 s2 _ (hl.below hW)).mono ?_
              rintro e W' ⟨rfl, hb⟩
              exact ⟨by rw [HSE.out.2], hW.trans (hb.mono hW.size)⟩⟩
            have hne2 : (IntKind.i64.wrap ((room : Int) - (t2.bs.length : Int)) != IntKind.i64.wrap ((room : Int) - (t2.bs.length : Int))) = false := bne_self_eq_false _
            have hne3 : ((t2.forced : Int) != (t2.forced : Int)) = false := bne_self_eq_false _
            clear hta hlo hrf hhy hmr ey1 hn2 hS hok2
            go_wp2_with fail
            go_region_held_law (fun W => W.cell? ⟨y, 1, none⟩ = some (.slice Ay n2 cy) ∧ W.cell? ⟨x, 1, none⟩ = some (.slice Ax t2.forced cx)) (exact HEC.out _ (Aside0.out (by assumption)))
              (first
               | (go_at_call 26; refine (HRCS.out _ (Aside0.out (by assumption))).mono ?_; rintro e wa ⟨A5, c5, rfl, hta, hba⟩; have HTa := Aside0.mk hta; have HBa := Aside0.mk hba; clear hta hba)
               | (go_at_call 17; refine (HSMS.out _ _ _ (Aside0.out (by assumption)) (Aside0.out (by assumption))).mono ?_; rintro e wb ⟨rfl, hbb⟩; have HBb := Aside0.mk hbb; clear hbb)
               | (go_at_call 22; refine (HBTS.out _ (Aside0.out (by assumption))).mono ?_; rintro e wc ⟨A6, n6, c6, rfl, hst, hbc⟩; have HBc := Aside0.mk hbc; have HST := Aside0.mk hst; have hs6 := hst _ (Below.refl _ _); clear hbc hst)
               | (go_at_call 37; refine (HBRS.out _ (Aside0.out (by assumption))).mono ?_; rintro e wd ⟨A7, n7, c7, rfl, hs7, hbd, hbd2⟩; have HBd := Aside0.mk hbd2; have hs67 := HST.out _ hbd; clear hbd hbd2)
               | (go_at_call 23; refine (HFCS.out _ (Aside0.out (by assumption))).mono ?_; rintro e we ⟨rfl, hwe⟩; have hwe := hwe.symm; subst hwe)
               | (go_at_call 30; refine (HRMS.out _ (Aside0.out (by assumption))).mono ?_; rintro e wf ⟨rfl, hbf⟩; have HBf := Aside0.mk hbf; clear hbf)
               | (go_at_call 24; refine (HLNS.out _ (Aside0.out (by assumption))).mono ?_; rintro e wg ⟨rfl, hwg⟩; have hwg := hwg.symm; subst hwg))
            all_goals
              go_wp2_with fail
              exact ⟨⟨i + 1, t2, s2, q, y, by omega, by omega, rfl, rfl, by go_num, ⟨HBE.out.trans (HBf.out.mono HBE.out.size)⟩, ⟨HTE.out.below HBf.out (fun _ h => h.elim) (fun _ h => h.elim)⟩, HSE⟩, by simp [intOf]; omega⟩
    · rcases hend with hend | ⟨hlt, hend⟩
      · have hlt' : ¬ (i : Int) < (l.length : Int) := by omega
        go_wp2_with fail
        refine (alive_calls _).mono ?_
        rintro e w9 ⟨rfl, hb9⟩
        have HB9 := Aside0.mk (HB.out.trans (hb9.mono HB.out.size))
        clear hb9
        go_wp2_with fail
        go_ret
        exact ⟨rfl, HB9.out⟩
      · have hlt' : (i : Int) < (l.length : Int) := by omega
        have hlt2 : ¬ (i : Int) < 20 := by omega
        go_wp2_with fail
        refine (alive_calls _).mono ?_
        rintro e w9 ⟨rfl, hb9⟩
        have HB9 := Aside0.mk (HB.out.trans (hb9.mono HB.out.size))
        clear hb9
        go_wp2_with fail
        go_ret
        exact ⟨rfl, HB9.out⟩
end Go.Proofs.Ytcnohnieoecpdaa.Oct
