import Derived.Test.YtcnohnieoecpdaaWalX
/- Swap. -/
namespace Go.Proofs.Ytcnohnieoecpdaa.M
def errL : List Rc → Int
  | [] => 0
  | r :: l => if r.good then errL l else (writeR r).2
theorem errL_good {l : List Rc} (h : ∀ r ∈ l, r.good) : errL l = 0 := by
  induction l with
  | nil => rfl
  | cons r l ih =>
    unfold errL
    rw [if_pos (h r (by simp))]
    exact ih (fun q hq => h q (by simp [hq]))
theorem errL_bad {l : List Rc} {i : Nat} (hi : i < l.length) (hg : ∀ r ∈ l.take i, r.good) (z : Rc) (hb : ¬ (l.getD i z).good) : errL l = (writeR (l.getD i z)).2 := by
  induction l generalizing i with
  | nil => simp at hi
  | cons r l ih =>
    cases i with
    | zero =>
      have hb : ¬ r.good := hb
      show (if r.good then errL l else (writeR r).2) = _
      rw [if_neg hb]
      rfl
    | succ i =>
      have hr : r.good := hg r (by simp)
      show (if r.good then errL l else (writeR r).2) = _
      rw [if_pos hr]
      exact ih (by simpa using hi) (fun q hq => hg q (by simp [hq])) hb
end Go.Proofs.Ytcnohnieoecpdaa.M
namespace Go.Proofs.Ytcnohnieoecpdaa.Oct
open Go.RowKit Go.Proofs.YtcnohnieoecpdaaW.PrintWords Go.Proofs.Ytcnohnieoecpdaa.M
set_option linter.unusedVariables false
set_option linter.unusedSimpArgs false
def swapP (t : TS) (ls l : List Rc) : TS × List Rc × Int :=
  if errL l = 0 then (if t.room < (allB l).length then (t, ls, 5) else (⟨t.room, allB l, (allB l).length⟩, l, 0)) else (t, ls, errL l)
set_option maxRecDepth 20000 in
set_option maxHeartbeats 16000000 in
theorem lswap_calls (w : World) (base q p : Nat) (t : TS) (ls : List Rc) (ex : Nat → Prop) (l : List Rc) (A : Option Addr) (c : Nat) (h : LgAt base w q p t ls ex) (hx : ∀ k, ex k → k < w.heap.size) (hbs : base ≤ w.heap.size) (hr : ∀ W, KX base w ex W → recK.C W A l.length l) (hok : ∀ r ∈ l, RcOk r) (hll : l.length ≤ 1000000) :
    Calls Try.prog 29 #[.pointer (some ⟨q, 0, none⟩), .slice A l.length c] w (RetAdd base w q p ex (swapP t ls l)) := by
  have HT0 := Aside0.mk h
  have HRK := Aside0.mk hr
  have HL := Aside0.mk (hr w (KX.of_below (Below.refl _ _) hbs))
  have HOK := Aside0.mk hok
  have HX := Aside0.mk hx
  have HBS := Aside0.mk hbs
  have HPL : Aside0 (p < w.heap.size) := ⟨by obtain ⟨F, G, ⟨_, _, hh, _⟩, _⟩ := h; exact (Array.getElem?_eq_some_iff.1 hh).1⟩
  have HLM : Aside0 (Calls Try.prog 49 #[.pointer (some ⟨q, 0, none⟩)] w fun e w' => e = .returned (.bool true) ∧ w' = w) := ⟨by
    obtain ⟨F, G, _, h2, _⟩ := h
    exact lmade_calls w q p ls G h2⟩
  have HQ0 : Aside0 (∀ W, Below w.heap.size w W → W.cell? ⟨q, 0, none⟩ = some (.pointer (some ⟨p, 0, none⟩))) := ⟨fun W hW => by
    obtain ⟨F, G, _, ⟨v, hh, _⟩, _⟩ := h.below hW
    exact (two_cells' hh).1⟩
  obtain ⟨n, hn⟩ : ∃ n, n = l.length := ⟨_, rfl⟩
  have HN := Aside0.mk hn
  rw [← hn] at hll HL ⊢
  clear h hr hok hx hbs hn
  go_enter Try.func29, Try.ntmps29
  go_wp2_with fail
  go_step3
  go_wp2_with fail
  refine HLM.out.mono ?_
  rintro e w1 ⟨rfl, hw1⟩
  have hw1 := hw1.symm
  subst hw1
  go_wp2_with fail
  go_step3
  go_wp2_with fail
  go_loopw [5, 6, 16] (fun v5 v6 v16 wr => ∃ i : Nat, i ≤ n ∧ v6 = .int .i64 0 ∧ v16 = .int .i64 i ∧ Aside0 (Below w.heap.size w wr) ∧ Aside0 (QB wr w.heap.size v5 (allB (l.take i))) ∧ Aside0 (∀ r ∈ l.take i, r.good)) (fun _ _ v _ => n - (intOf v).toNat)
  case atStart => exact ⟨0, by omega, rfl, rfl, ⟨Below.refl _ _⟩, ⟨QB.nil _ _⟩, ⟨fun r hr => by simp at hr⟩⟩
  case round =>
    obtain ⟨i, hi, rfl, rfl, HB, HQ, HGD⟩ := hrel
    obtain ⟨A5, c5, rfl, _, _, _⟩ := HQ.out.form
    have hlen9 := allB_le HGD.out
    rw [List.length_take, Nat.min_eq_left (by have := HN.out; omega)] at hlen9
    obtain ⟨xs, hxs⟩ : ∃ xs, xs = allB (l.take i) := ⟨_, rfl⟩
    have HXS := Aside0.mk hxs
    rw [← hxs] at HQ hlen9 ⊢
    clear hxs
    by_cases hlt : i < n
    · have hlt' : (i : Int) < (n : Int) := by omega
      have hil : i < l.length := by have := HN.out; omega
      obtain ⟨ad, B, c1, rfl, k0, k1, hcap, hrd⟩ := rec_at (Kd.C_below HL.out HB.out) hlt (0, [])
      have HM := Aside0.mk (rec_mem hil (0, []))
      have HTS := Aside0.mk (take_snoc hil (0, []))
      have HEB : Aside0 (¬ (l.getD i (0, [])).good → errL l = (writeR (l.getD i (0, []))).2) := ⟨fun hb => errL_bad hil HGD.out _ hb⟩
      obtain ⟨o, ho⟩ : ∃ o, o = l.getD i (0, []) := ⟨_, rfl⟩
      rw [← ho] at k0 k1 hcap hrd HM HTS HEB
      have HOI := Aside0.mk (HOK.out _ HM.out)
      obtain ⟨L, hL⟩ : ∃ L, L = o.2.length := ⟨_, rfl⟩
      have HLO := Aside0.mk hL
      rw [← hL] at k1
      obtain ⟨g, hg⟩ : ∃ g, g = wr.heap.size := ⟨_, rfl⟩
      obtain ⟨w0, hw0⟩ : ∃ w0, w0 = wr.alloc (.cells #[.int .i64 o.1, .slice B L c1] 24) := ⟨_, rfl⟩
      have HB0 : Aside0 (Below wr.heap.size wr w0) := ⟨by rw [hw0]; exact below_alloc (Below.refl _ _) _⟩
      have HH0 : Aside0 (w0.heap[g]? = some (.cells #[.int .i64 o.1, .slice B L c1] 24 (0, 0))) := ⟨by rw [hw0, hg]; exact heap_alloc_new wr _⟩
      have HBW := Aside0.mk (HB.out.trans (HB0.out.mono HB.out.size))
      have HWR := Aside0.mk (wwrite_calls w0 o B c1 (Kd.C_below hrd HB0.out) HOI.out.2.1)
      rw [← hL] at HWR
      have HQ0' := Aside0.mk (HQ.out.below HB0.out)
      clear ho hcap hrd hL hil
      by_cases hgd : o.good
      · have HV := writeR_good hgd
        rw [HV] at HWR
        have HGD1 : Aside0 (∀ r ∈ l.take (i + 1), r.good) := ⟨fun r hr => by
          rw [HTS.out] at hr
          rcases List.mem_append.1 hr with h | h
          · exact HGD.out r h
          · have : r = o := by simpa using h
            rw [this]; exact hgd⟩
        have HAL : Aside0 (allB (l.take (i + 1)) = xs ++ o.all) := ⟨by rw [HTS.out, allB_snoc, HXS.out]⟩
        have hol : o.all.length ≤ 1031 := by rw [Rc.all_len]; have := hgd.2.2; omega
        obtain ⟨ys, hys⟩ : ∃ ys, ys = o.all := ⟨_, rfl⟩
        rw [← hys] at HWR HAL hol
        clear hgd HV hys
        go_wp2_with fail
        rw [← hw0, ← hg]
        obtain ⟨t0, t1, _, _⟩ := two_cells' HH0.out
        clear hw0 hg k0 k1
        go_wp2_with fail
        refine HWR.out.mono ?_
        rintro e w2 ⟨v2, rfl, hq2, hb2⟩
        dsimp only at hq2 ⊢
        obtain ⟨A2, c2, rfl, _, _, hr2⟩ := hq2.form
        have HR2 := Aside0.mk hr2
        have HQ2 := Aside0.mk (HQ0'.out.below hb2)
        have HB2 := Aside0.mk (HBW.out.trans (hb2.mono HBW.out.size))
        clear hq2 hb2 hr2 HWR t0 t1
        go_wp2_with ((with_reducible refine gate_dst (N := 29) rfl ?_); at_builtin; refine app_q w.heap.size rfl (.tmp 27) (.tmp 28) rfl (.slice A5 xs.length c5) xs ys A2 ys.length c2 rfl rfl rfl HQ2.out HR2.out HB2.out.size (by omega) ?_; intro v7 w4 ho1 hg1 _; rw [← HAL.out] at ho1; have HO4 := Aside0.mk ho1; have HB4 := Aside0.mk (HB2.out.grown hg1 HB2.out.size (fun k hk => (HQ2.out.block hk).1)); clear ho1 hg1)
        go_roundw
        case rel => exact ⟨i + 1, by omega, rfl, by go_num, HB4, HO4, HGD1⟩
        case measure => simp [intOf]; omega
      · have HN9 := writeR_not hgd
        have HE9 := Aside0.mk (HEB.out hgd)
        obtain ⟨er, her⟩ : ∃ er, er = (writeR o).2 := ⟨_, rfl⟩
        have hne : (er != 0) = true := by simpa [her] using HN9.2
        have HV : Aside0 (swapP t ls l = (t, ls, er)) := ⟨by unfold swapP; rw [HE9.out, ← her, if_neg (by rw [her]; exact HN9.2)]⟩
        have HER := Aside0.mk her
        have HNV := Aside0.mk HN9.1
        clear hgd her HN9
        go_wp2_with fail
        rw [← hw0, ← hg]
        obtain ⟨t0, t1, _, _⟩ := two_cells' HH0.out
        clear hw0 hg k0 k1
        go_wp2_with fail
        refine HWR.out.mono ?_
        rintro e w2 ⟨v2, rfl, hq2, hb2⟩
        rw [← HER.out]
        rw [HNV.out] at hq2
        obtain ⟨A2, c2, rfl, _⟩ := hq2.form
        have HB2 := Aside0.mk (HBW.out.trans (hb2.mono HBW.out.size))
        clear hq2 hb2 HWR t0 t1
        go_wp2_with fail
        simp only [Exit.noGoto]
        go_ret
        rw [HV.out]
        exact ⟨rfl, HT0.out.below HB2.out, KX.of_below HB2.out HBS.out⟩
    · obtain rfl : i = n := by omega
      have hlt' : ¬ (i : Int) < (i : Int) := by omega
      have HXL : Aside0 (xs = allB l) := ⟨by rw [HXS.out, HN.out, List.take_length]⟩
      have HGL : Aside0 (∀ r ∈ l, r.good) := ⟨fun r hr => HGD.out r (by rw [HN.out, List.take_length]; exact hr)⟩
      have HEG := Aside0.mk (errL_good HGL.out)
      have HBY : Aside0 (Bytes xs) := ⟨by
        rw [HXL.out]
        unfold allB
        intro b hb
        obtain ⟨r, hr, hbr⟩ := List.mem_flatMap.1 hb
        exact Rc.all_bytes (HGL.out r hr) (HOK.out r hr).2.1 b hbr⟩
      have HX1 : Aside0 (∀ k, ex k → k < wr.heap.size) := ⟨fun k hk => Nat.lt_of_lt_of_le (HX.out k hk) HB.out.size⟩
      have HTW := Aside0.mk (HT0.out.below HB.out)
      have HK1 := Aside0.mk (KX.of_below (ex := ex) HB.out HBS.out)
      have HBS1 : Aside0 (base ≤ wr.heap.size) := ⟨Nat.le_trans HBS.out HB.out.size⟩
      have HSC := Aside0.mk (HTW.out.tape HX1.out HBS1.out (fun F hF => swap_calls wr p t F A5 c5 xs hF HQ.out.C HBY.out (fun ad e => by
        have h1 := HQ.out
        subst e
        have := (h1.block rfl).1
        have := HPL.out
        omega)))
      have x0 := HQ0.out _ HB.out
      clear hlt HXS
      go_wp2_with fail
      refine HSC.out.mono ?_
      rintro e w2 ⟨rfl, ht2, hk2⟩
      have HT2 := Aside0.mk ht2
      have HK2 := Aside0.mk (HK1.out.trans hk2)
      have HX2 : Aside0 (∀ k, ex k → k < w2.heap.size) := ⟨fun k hk => Nat.lt_of_lt_of_le (HX1.out k hk) hk2.below.size⟩
      have HBS2 : Aside0 (base ≤ w2.heap.size) := ⟨Nat.le_trans HBS1.out hk2.below.size⟩
      clear ht2 hk2 HSC x0
      by_cases hroom : t.room < xs.length
      · have HSW : Aside0 (t.swap xs = (t, 5)) := ⟨by unfold TS.swap; rw [if_pos hroom]⟩
        have HV : Aside0 (swapP t ls l = (t, ls, 5)) := ⟨by unfold swapP; rw [if_pos HEG.out, ← HXL.out, if_pos hroom]⟩
        rw [HSW.out] at HT2 ⊢
        clear hroom
        go_wp2_with fail
        simp only [Exit.noGoto]
        go_ret
        rw [HV.out]
        exact ⟨rfl, HT2.out, HK2.out⟩
      · have HSW : Aside0 (t.swap xs = ({ t with bs := xs, forced := xs.length }, 0)) := ⟨by unfold TS.swap; rw [if_neg hroom]⟩
        have HV : Aside0 (swapP t ls l = (⟨t.room, xs, xs.length⟩, l, 0)) := ⟨by unfold swapP; rw [if_pos HEG.out, ← HXL.out, if_neg hroom]⟩
        rw [HSW.out] at HT2 ⊢
        dsimp only at HT2 ⊢
        have hrc := HRK.out _ HK2.out
        have HCP := Aside0.mk (copies_calls w2 l A c hrc (fun r hr => (HOK.out r hr).2.2) (by have := HN.out; omega))
        rw [← HN.out] at HCP
        obtain ⟨F, G, g1, ⟨v, hh, hlr, hgq⟩, g3, g4, g5⟩ := HT2.out
        have HCL : Aside0 (∀ w4 v4, Below w2.heap.size w2 w4 → RW w4 w2.heap.size v4 l → LgAt base (w4.setCell ⟨q, 1, none⟩ v4) q p (TS.mk t.room xs xs.length) l ex ∧ KX base w2 ex (w4.setCell ⟨q, 1, none⟩ v4)) := ⟨fun w4 v4 hm' hr4 => add_close g1 hh hlr hgq g3 g4 g5 HX2.out HBS2.out rfl hm' ((LR.of_RW hr4).mono (fun k h _ => .inr h.1)) (World.grownBy.refl _ _)⟩
        have HQC : Aside0 (∀ w4, Below w2.heap.size w2 w4 → w4.cell? ⟨q, 1, none⟩ = some v ∧ w4.frozen? ⟨q, 1, none⟩ = false) := ⟨fun w4 hm' => by
          obtain ⟨_, y1, _, y3⟩ := two_cells' (blk_keep hh hm')
          exact ⟨y1, y3⟩⟩
        clear g1 hh hgq g3 g4 g5 hlr hroom hrc
        go_wp2_with fail
        refine HCP.out.mono ?_
        rintro e w4 ⟨v4, rfl, hr4, hb4⟩
        obtain ⟨A4, c4, rfl⟩ := hr4.form
        have HE4 := Aside0.mk (HCL.out _ _ hb4 hr4)
        obtain ⟨y1, y3⟩ := HQC.out _ hb4
        clear hr4 hb4 HCP
        go_wp2_with fail
        simp only [Exit.noGoto]
        go_ret
        rw [HV.out]
        exact ⟨rfl, HE4.out.1, HK2.out.trans HE4.out.2⟩
end Go.Proofs.Ytcnohnieoecpdaa.Oct
