import Derived.Test.YtcnohnieoecpdaaWalY
import Derived.Test.YtcnohnieoecpdaaWalZ
/- WalSwaps. -/
namespace Go.Proofs.Ytcnohnieoecpdaa.Oct
open Go.RowKit Go.Proofs.YtcnohnieoecpdaaW.PrintWords Go.Proofs.Ytcnohnieoecpdaa.M
set_option linter.unusedVariables false
set_option linter.unusedSimpArgs false
theorem LgAt.outside {base : Nat} {W : World} {q p : Nat} {t : TS} {ls : List Rc} {ex ex' : Nat → Prop} (h : LgAt base W q p t ls ex) (he : ∀ k, ex' k → W.heap.size ≤ k) : LgAt base W q p t ls ex' := by
  obtain ⟨F, G, h1, h2, h3, h4, h5⟩ := h
  exact ⟨F, G, h1, h2, h3, fun k hk => ⟨(h4 k hk).1, (h4 k hk).2.1, fun e => by have := he k e; have := (h4 k hk).2.1; omega⟩, fun k hk => ⟨(h5 k hk).1, (h5 k hk).2.1, fun e => by have := he k e; have := (h5 k hk).2.1; omega⟩⟩
theorem errL_zero {l : List Rc} (h : errL l = 0) : ∀ r ∈ l, r.good := by
  induction l with
  | nil => intro r hr; nomatch hr
  | cons r l ih =>
    unfold errL at h
    by_cases hg : r.good
    · rw [if_pos hg] at h
      intro q hq
      rcases List.mem_cons.1 hq with rfl | hq
      · exact hg
      · exact ih h q hq
    · rw [if_neg hg] at h
      exact absurd h (writeR_not hg).2
theorem swapP_cases (t : TS) (ls l : List Rc) : (∃ e, e ≠ 0 ∧ swapP t ls l = (t, ls, e)) ∨ ((∀ r ∈ l, r.good) ∧ swapP t ls l = (⟨t.room, allB l, (allB l).length⟩, l, 0)) := by
  unfold swapP
  by_cases h : errL l = 0
  · rw [if_pos h]
    by_cases hr : t.room < (allB l).length
    · rw [if_pos hr]
      exact .inl ⟨5, by decide, rfl⟩
    · rw [if_neg hr]
      exact .inr ⟨errL_zero h, rfl⟩
  · rw [if_neg h]
    exact .inl ⟨_, h, rfl⟩
set_option maxRecDepth 200000 in
set_option maxHeartbeats 16000000 in
theorem wswaps_calls (w : World) (one two : List Rc) (A B : Option Addr) (c d : Nat) (n : Int) (h : recK.C w A one.length one) (h' : recK.C w B two.length two) (hok : ∀ r ∈ one, RcOk r) (hok' : ∀ r ∈ two, RcOk r) (hn : -9223372036854775808 ≤ n ∧ n ≤ 9223372036854775807) :
    Calls Try.prog 9 #[.slice A one.length c, .slice B two.length d, .int .i64 n] w (Yes w) := by
  have HL := Aside0.mk h
  have HL' := Aside0.mk h'
  have HOK := Aside0.mk hok
  have HOK' := Aside0.mk hok'
  have HNB := Aside0.mk hn
  have hll : one.length ≤ 9223372036854775807 := h.2.1
  have hll' : two.length ≤ 9223372036854775807 := h'.2.1
  have HGR : Aside0 (∀ W, Below w.heap.size w W → Calls Try.prog 18 #[.slice A one.length c] W fun e w' => e = .returned (.bool (greatB one)) ∧ Below w.heap.size w w') := ⟨fun W hW => by
    refine (great_calls W one A c (Kd.C_below HL.out hW) HOK.out).mono ?_
    rintro e W' ⟨rfl, hb⟩
    exact ⟨rfl, hW.trans (hb.mono hW.size)⟩⟩
  have HGR' : Aside0 (∀ W, Below w.heap.size w W → Calls Try.prog 18 #[.slice B two.length d] W fun e w' => e = .returned (.bool (greatB two)) ∧ Below w.heap.size w w') := ⟨fun W hW => by
    refine (great_calls W two B d (Kd.C_below HL'.out hW) HOK'.out).mono ?_
    rintro e W' ⟨rfl, hb⟩
    exact ⟨rfl, hW.trans (hb.mono hW.size)⟩⟩
  clear h h' hok hok' hn
  have hcase : greatB one = true ∨ (greatB one = false ∧ greatB two = true) ∨ (greatB one = false ∧ greatB two = false) := by
    cases greatB one <;> cases greatB two <;> simp
  rcases hcase with hg | ⟨hg, hg'⟩ | ⟨hg, hg'⟩
  · rw [hg] at HGR
    clear hg
    go_enter Try.func9, Try.ntmps9
    go_wp2_with fail
    refine (HGR.out _ (Below.refl _ _)).mono ?_
    rintro e w1 ⟨rfl, hb1⟩
    have HB1 := Aside0.mk hb1
    clear hb1
    go_wp2_with fail
    refine (alive_calls _).mono ?_
    rintro e w3 ⟨rfl, hb3⟩
    have HB3 := Aside0.mk (HB1.out.trans (hb3.mono HB1.out.size))
    clear hb3
    go_wp2_with fail
    go_ret
    exact ⟨rfl, HB3.out⟩
  · rw [hg] at HGR
    rw [hg'] at HGR'
    clear hg hg'
    go_enter Try.func9, Try.ntmps9
    go_wp2_with fail
    refine (HGR.out _ (Below.refl _ _)).mono ?_
    rintro e w1 ⟨rfl, hb1⟩
    have HB1 := Aside0.mk hb1
    clear hb1
    go_wp2_with fail
    refine (HGR'.out _ HB1.out).mono ?_
    rintro e w2 ⟨rfl, hb2⟩
    have HB2 := Aside0.mk hb2
    clear hb2
    go_wp2_with fail
    refine (alive_calls _).mono ?_
    rintro e w3 ⟨rfl, hb3⟩
    have HB3 := Aside0.mk (HB2.out.trans (hb3.mono HB2.out.size))
    clear hb3
    go_wp2_with fail
    go_ret
    exact ⟨rfl, HB3.out⟩
  · rw [hg] at HGR
    rw [hg'] at HGR'
    obtain ⟨hl20, _⟩ := great_no hg
    obtain ⟨hl20', _⟩ := great_no hg'
    clear hg hg'
    go_enter Try.func9, Try.ntmps9
    go_wp2_with fail
    refine (HGR.out _ (Below.refl _ _)).mono ?_
    rintro e w1 ⟨rfl, hb1⟩
    have HB1 := Aside0.mk hb1
    clear hb1
    go_wp2_with fail
    refine (HGR'.out _ HB1.out).mono ?_
    rintro e w2 ⟨rfl, hb2⟩
    have HB2 := Aside0.mk hb2
    clear hb2 HB1
    go_wp2_with fail
    refine (new_good w2 65536 (by decide) (by decide)).mono ?_
    rintro e w3 ⟨rfl, ht3, hb3⟩
    obtain ⟨p, hp⟩ : ∃ p, p = w2.heap.size := ⟨_, rfl⟩
    have HPW : Aside0 (w.heap.size ≤ p) := ⟨by rw [hp]; exact HB2.out.size⟩
    have HT3 : Aside0 (TapeAt w3 p ⟨65536, [], 0⟩ (fun k => w2.heap.size ≤ k ∧ k < w3.heap.size)) := ⟨by rw [hp]; exact ht3.mono (fun k h hl => ⟨h, hl⟩)⟩
    have HB3 := Aside0.mk (HB2.out.trans (hb3.mono HB2.out.size))
    have HS23 := Aside0.mk hb3.size
    rw [← hp]
    clear ht3 hb3 hp
    go_wp2_with fail
    refine (open_calls w3 p _ _ HT3.out).mono ?_
    rintro e w4 ⟨q, A4, c4, v4, rfl, _, hq4, hh4, hr4, ht4, hg4⟩
    have hFp : (fun k => w2.heap.size ≤ k ∧ k < w3.heap.size) p := by obtain ⟨_, _, _, _, hp, _⟩ := HT3.out; exact hp
    have hL4 := LgAt.opened (base := w.heap.size) (fun k h => ⟨Nat.le_trans HB2.out.size h.1, h.2⟩) HB3.out.size hFp hq4 hh4 hr4 ht4 hg4
    have hto : TS.opened ⟨65536, [], 0⟩ = ⟨65536, [], 0⟩ ∧ recsOf [] = [] := ⟨by unfold TS.opened recsOf; dsimp only; rw [readL_nil]; rfl, by unfold recsOf; rw [readL_nil]; rfl⟩
    dsimp only at hL4 ⊢
    rw [hto.1, hto.2] at hL4
    rw [hto.2]
    have HL4 := Aside0.mk hL4
    have HB4 := Aside0.mk (HB3.out.grown hg4 HB3.out.size (fun k e => by injection e with e; subst e; exact HPW.out))
    clear hq4 hh4 hr4 ht4 hg4 hFp hL4 hto
    go_wp2_with fail
    go_loopw [12] (fun v12 wr => ∃ (i : Nat) (t : TS) (ls : List Rc), i ≤ one.length ∧ v12 = .int .i64 i ∧ Aside0 (Below w.heap.size w wr) ∧ Aside0 (LgAt w.heap.size wr q p t ls (fun _ => False)) ∧ Aside0 (Sound t ls ∧ ls.length ≤ i)) (fun v _ => one.length - (intOf v).toNat)
    case atStart => exact ⟨0, _, _, by omega, rfl, HB4, HL4, ⟨⟨rfl, fun r hr => (nomatch hr)⟩, Nat.le_refl _⟩⟩
    case round =>
      obtain ⟨i, t, ls, hi, rfl, HB, HT, HS⟩ := hrel
      have HLN : Aside0 (ls.length ≤ 20) := ⟨by have := HS.out.2; omega⟩
      by_cases hlt : i < one.length
      · have hlt' : (i : Int) < (one.length : Int) := by omega
        obtain ⟨ad, B1, c1, rfl, k0, k1, hcap, hrd⟩ := rec_at (Kd.C_below HL.out HB.out) hlt (0, [])
        have HM := Aside0.mk (rec_mem hlt (0, []))
        have hrd0 := rec_at HL.out hlt (0, [])
        obtain ⟨ad0, B0, c0, e0, k0', k1', _, hrd0⟩ := hrd0
        cases e0
        have hbb : B1 = B0 ∧ c1 = c0 := by
          have := (HB.out.cell (World.block_lt_of_cell? _ _ k1')).trans k1'
          rw [k1] at this
          injection this with this
          injection this with e1 e2 e3
          exact ⟨e1, e3⟩
        obtain ⟨rfl, rfl⟩ := hbb
        clear k0' k1'
        obtain ⟨o, ho⟩ : ∃ o, o = one.getD i (0, []) := ⟨_, rfl⟩
        rw [← ho] at k0 k1 hcap hrd0 HM
        have HOI := Aside0.mk (HOK.out _ HM.out)
        have HAC : Aside0 (∀ f : Bool, Calls Try.prog 25 #[.pointer (some ⟨q, 0, none⟩), .agg #[.int .i64 o.1, .slice B1 o.2.length c1], .bool f] wr (RetAdd w.heap.size wr q p (fun _ => False) (addP t ls o f))) := ⟨fun f => add_calls wr w.heap.size q p t ls (fun _ => False) o B1 c1 f HT.out (fun _ h => h.elim) HB.out.size (fun W hK => Kd.C_below hrd0 (HB.out.trans hK.below)) hcap HOI.out.2.1 (by have := HLN.out; omega)⟩
        clear ho hcap hrd hrd0
        go_wp2_with fail
        refine (HAC.out _).mono ?_
        rintro e w5 ⟨rfl, ht5, hk5⟩
        obtain ⟨f, hf⟩ : ∃ f, f = ((i : Int) % 2 == 0) := ⟨_, rfl⟩
        rw [← hf] at ht5 ⊢
        have hsd := addP_sound HS.out.1 HOI.out.2.1 f
        have HB5 := Aside0.mk (HB.out.trans hk5.below)
        have HT5 := Aside0.mk ht5
        have HS5 : Aside0 (Sound (addP t ls o f).1 (addP t ls o f).2.1 ∧ (addP t ls o f).2.1.length ≤ i + 1) := ⟨hsd.1, by have := hsd.2.2.1; have := HS.out.2; omega⟩
        obtain ⟨t5, ht5'⟩ : ∃ t5, t5 = (addP t ls o f).1 := ⟨_, rfl⟩
        obtain ⟨l5, hl5'⟩ : ∃ l5, l5 = (addP t ls o f).2.1 := ⟨_, rfl⟩
        rw [← ht5', ← hl5'] at HT5 HS5
        clear ht5 hk5 k0 k1 hsd HAC ht5' hl5' hf
        go_wp2_with fail
        exact ⟨⟨i + 1, t5, l5, by omega, by go_num, HB5, HT5, HS5⟩, by simp [intOf]; omega⟩
      · have hlt' : ¬ (i : Int) < (one.length : Int) := by omega
        have HRC : Aside0 (Calls Try.prog 26 #[.pointer (some ⟨q, 0, none⟩)] wr fun e w' => ∃ v, e = .returned v ∧ RW w' wr.heap.size v ls ∧ Below wr.heap.size wr w') := ⟨by
          obtain ⟨F, G, _, h2, _⟩ := HT.out
          exact records_calls wr q p ls G h2 (fun r hr => by have := (HS.out.1.2 r hr).1.2.2; omega) (by have := HLN.out; omega)⟩
        clear hlt
        go_wp2_with fail
        refine HRC.out.mono ?_
        rintro e w5 ⟨v5, rfl, hr5, hb5⟩
        have hlr5 := LR.of_RW hr5
        obtain ⟨A5, c5, rfl, _⟩ := hlr5.form
        have HR5 := Aside0.mk hlr5
        have HT5 := Aside0.mk ((HT.out.outside (ex' := fun k => wr.heap.size ≤ k ∧ k < w5.heap.size) (fun k h => h.1)).below hb5)
        have HB5 := Aside0.mk (HB.out.trans (hb5.mono HB.out.size))
        have HSW := Aside0.mk (lswap_calls w5 w.heap.size q p t ls _ two B d HT5.out (fun k h => h.2) HB5.out.size (fun W hK => Kd.C_below HL'.out (HB5.out.trans hK.below)) HOK'.out (by omega))
        have HLB : Aside0 (∀ r ∈ ls, Bytes r.2) := ⟨fun r hr => (HS.out.1.2 r hr).2⟩
        have HLT : Aside0 (∀ r ∈ ls, r.2.length ≤ 140737488355328) := ⟨fun r hr => by have := (HS.out.1.2 r hr).1.2.2; omega⟩
        have HPL : Aside0 (p < w5.heap.size) := ⟨by obtain ⟨F, G, ⟨_, _, hh, _⟩, _⟩ := HT5.out; exact (Array.getElem?_eq_some_iff.1 hh).1⟩
        clear hr5 hlr5 hb5 HRC
        rcases swapP_cases t ls two with ⟨er, hne, hsw⟩ | ⟨hgd, hsw⟩
        · rw [hsw] at HSW
          have hne' : (er != 0) = true := by simpa using hne
          have HLN2 := HLN
          clear hsw hne
          go_wp2_with fail
          refine HSW.out.mono ?_
          rintro e w6 ⟨rfl, ht6, hk6⟩
          have HT6 := Aside0.mk ht6
          have HR6 := Aside0.mk (HR5.out.step (W' := w6) (fun k h hl => hk6.block k h hl))
          have HB6 := Aside0.mk (HB5.out.trans hk6.below)
          clear ht6 hk6 HSW
          go_wp2_with fail
          refine (alive_calls _).mono ?_
          rintro e w7 ⟨rfl, hb7⟩
          have HB7 := Aside0.mk (HB6.out.trans (hb7.mono HB6.out.size))
          have HR7 := Aside0.mk (HR6.out.step (W' := w7) (fun k h hl => hb7.block k hl))
          have HRC : Aside0 (Calls Try.prog 26 #[.pointer (some ⟨q, 0, none⟩)] w7 fun e w' => ∃ v, e = .returned v ∧ RW w' w7.heap.size v ls ∧ Below w7.heap.size w7 w') := ⟨by
            obtain ⟨F, G, _, h2, _⟩ := HT6.out.below hb7
            exact records_calls w7 q p ls G h2 HLT.out (by have := HLN.out; omega)⟩
          clear hb7
          go_wp2_with fail
          refine HRC.out.mono ?_
          rintro e w8 ⟨v8, rfl, hr8, hb8⟩
          obtain ⟨A8, c8, rfl⟩ := hr8.form
          have HB8 := Aside0.mk (HB7.out.trans (hb8.mono HB7.out.size))
          have HC5 := Aside0.mk (Kd.C_below (LR.C HR7.out (by have := HLN.out; omega)) hb8)
          have HC8 := Aside0.mk (RW.C hr8 (by have := HLN.out; omega))
          have HSM := Aside0.mk (same_calls w8 ls ls A8 A5 c8 c5 HC8.out HC5.out HLB.out HLB.out)
          rw [show sameB ls ls = true by simp [sameB]] at HSM
          clear hr8 hb8 HRC
          go_wp2_with fail
          refine HSM.out.mono ?_
          rintro e w9 ⟨rfl, hb9⟩
          have HB9 := Aside0.mk (HB8.out.trans (hb9.mono HB8.out.size))
          clear hb9
          go_wp2_with fail
          go_ret
          exact ⟨rfl, HB9.out⟩
        · rw [hsw] at HSW
          have HGD := Aside0.mk hgd
          clear hsw hgd
          go_wp2_with fail
          refine HSW.out.mono ?_
          rintro e w6 ⟨rfl, ht6, hk6⟩
          dsimp only at ht6
          have HT6 := Aside0.mk ht6
          have HB6 := Aside0.mk (HB5.out.trans hk6.below)
          have HPL6 := Aside0.mk (Nat.lt_of_lt_of_le HPL.out hk6.below.size)
          obtain ⟨F, G, a1, a2, a3, a4, a5⟩ := ht6
          have HFp : Aside0 (F p) := ⟨by obtain ⟨_, _, _, _, hp, _⟩ := a1; exact hp⟩
          have HA1 := Aside0.mk a1
          have HA2 := Aside0.mk a2
          have HA3 := Aside0.mk a3
          clear a1 a2 a3 a4 a5 hk6 HSW
          go_wp2_with fail
          refine (crash_calls w6 p _ F n HA1.out HNB.out).mono ?_
          rintro e w9 ⟨rfl, ht9, hg9⟩
          have HT9 := Aside0.mk ht9
          have HA9 := Aside0.mk (HA2.out.step (W' := w9) (fun k h hl => hg9.block k hl (fun e => by injection e with e; subst e; exact HA3.out _ HFp.out h)))
          have HB9 := Aside0.mk (HB6.out.grown hg9 HB6.out.size (fun k e => by injection e with e; subst e; exact HPW.out))
          have HS9 := Aside0.mk (Nat.lt_of_lt_of_le HPL6.out hg9.size)
          clear ht9 hg9
          have htl : (allB two).length ≤ (TS.mk t.room (allB two) (allB two).length).left n ∧ (TS.mk t.room (allB two) (allB two).length).left n ≤ (allB two).length := TS.left_le (LgAt.ok HT6.out) n
          obtain ⟨kk, kk1, kk2, kk3⟩ := found_front (l := two) (s := two) HGD.out (List.prefix_refl _) (n := (TS.mk t.room (allB two) (allB two).length).left n) htl.1 htl.2
          have hkk : two.take kk = two := List.take_of_length_le kk2
          rw [hkk] at kk3
          have HRC9 : Aside0 (recsOf ((TS.mk t.room (allB two) (allB two).length).crash n).bs = two) := ⟨by unfold TS.crash; dsimp only; exact kk3⟩
          have HOC := Aside0.mk (open_calls w9 p _ _ HT9.out)
          unfold RetOp at HOC
          rw [HRC9.out] at HOC
          clear htl kk1 kk2 kk3 hkk
          go_wp2_with fail
          refine HOC.out.mono ?_
          rintro e w10 ⟨q10, A10, c10, v10, rfl, hr10, _, _, _, _, hg10⟩
          have HR10 := Aside0.mk hr10
          have HA10 := Aside0.mk (HA9.out.step (W' := w10) (fun k h hl => hg10.block k hl (fun e => by injection e with e; subst e; exact HA3.out _ HFp.out h)))
          have HB10 := Aside0.mk (HB9.out.grown hg10 HB9.out.size (fun k e => by injection e with e; subst e; exact HPW.out))
          clear hr10 hg10 HOC
          go_wp2_with fail
          refine (alive_calls _).mono ?_
          rintro e w11 ⟨rfl, hb11⟩
          have HB11 := Aside0.mk (HB10.out.trans (hb11.mono HB10.out.size))
          have HLB2 : Aside0 (∀ r ∈ two, Bytes r.2) := ⟨fun r hr => (HOK'.out r hr).2.1⟩
          have HSM := Aside0.mk (same_calls w11 two two A10 B c10 d (Kd.C_below (RW.C HR10.out hll') hb11) (Kd.C_below HL'.out HB11.out) HLB2.out HLB2.out)
          rw [show sameB two two = true by simp [sameB]] at HSM
          have HA11 := Aside0.mk (HA10.out.below hb11)
          clear hb11
          go_wp2_with fail
          refine HSM.out.mono ?_
          rintro e w12 ⟨rfl, hb12⟩
          have HB12 := Aside0.mk (HB11.out.trans (hb12.mono HB11.out.size))
          have HRC := Aside0.mk (records_calls w12 q p two G (HA11.out.below hb12) (fun r hr => by have := (HGD.out r hr).2.2; omega) (by omega))
          clear hb12
          go_wp2_with fail
          refine HRC.out.mono ?_
          rintro e w13 ⟨v13, rfl, hr13, hb13⟩
          obtain ⟨A13, c13, rfl⟩ := hr13.form
          have HB13 := Aside0.mk (HB12.out.trans (hb13.mono HB12.out.size))
          have HSM2 := Aside0.mk (same_calls w13 two two A13 B c13 d (RW.C hr13 hll') (Kd.C_below HL'.out HB13.out) HLB2.out HLB2.out)
          rw [show sameB two two = true by simp [sameB]] at HSM2
          clear hr13 hb13
          go_wp2_with fail
          refine HSM2.out.mono ?_
          rintro e w14 ⟨rfl, hb14⟩
          have HB14 := Aside0.mk (HB13.out.trans (hb14.mono HB13.out.size))
          clear hb14
          go_wp2_with fail
          go_ret
          exact ⟨rfl, HB14.out⟩
end Go.Proofs.Ytcnohnieoecpdaa.Oct
