import Derived.Test.YtcnohnieoecpdaaWalX
/- WalFound. -/
namespace Go.Proofs.Ytcnohnieoecpdaa.Oct
open Go.RowKit Go.Proofs.YtcnohnieoecpdaaW.PrintWords Go.Proofs.Ytcnohnieoecpdaa.M
set_option linter.unusedVariables false
set_option linter.unusedSimpArgs false
theorem take_back (l : List Rc) : ∀ n, n ≤ (allB l).length → ∃ k, k ≤ l.length ∧ (allB (l.take k)).length ≤ n ∧ (k < l.length → n < (allB (l.take (k + 1))).length) := by
  induction l with
  | nil => intro n _; exact ⟨0, Nat.le_refl _, by simp [allB], fun h => by simp at h⟩
  | cons r l ih =>
    intro n hn
    rw [allB_cons, List.length_append] at hn
    by_cases h : n < r.all.length
    · exact ⟨0, Nat.zero_le _, by simp [allB], fun _ => by rw [List.take_succ_cons, allB_cons, List.length_append]; omega⟩
    · obtain ⟨k, h1, h2, h3⟩ := ih (n - r.all.length) (by omega)
      refine ⟨k + 1, by simp; omega, by rw [List.take_succ_cons, allB_cons, List.length_append]; omega, fun hk => ?_⟩
      have := h3 (by simp at hk; omega)
      rw [List.take_succ_cons, allB_cons, List.length_append]
      omega
/-- what is found behind a crash is a front of what was there, no shorter than what was forced -/
theorem found_front {l s : List Rc} (hg : ∀ r ∈ l, r.good) (hs : s <+: l) {n : Nat} (h1 : (allB s).length ≤ n) (h2 : n ≤ (allB l).length) : ∃ k, k ≤ l.length ∧ s.length ≤ k ∧ recsOf ((allB l).take n) = l.take k := by
  obtain ⟨k, k1, k2, k3⟩ := take_back l n h2
  refine ⟨k, k1, ?_, ?_⟩
  · rcases Nat.lt_or_ge k s.length with h | h
    · exfalso
      obtain ⟨u, rfl⟩ := hs
      have h5 := k3 (by rw [List.length_append]; omega)
      rw [List.take_append_of_le_length (by omega)] at h5
      have h6 : s = s.take (k + 1) ++ s.drop (k + 1) := (List.take_append_drop _ _).symm
      have h7 : (allB s).length = (allB (s.take (k + 1))).length + (allB (s.drop (k + 1))).length := by
        conv => lhs; rw [h6, allB_app, List.length_append]
      omega
    · exact h
  · unfold recsOf
    rw [readL_cut hg k1 k2 k3 h2, endsR_map]
def Sound (t : TS) (ls : List Rc) : Prop := t.bs = allB ls ∧ ∀ r ∈ ls, r.good ∧ Bytes r.2
theorem addP_sound {t : TS} {ls : List Rc} (h : Sound t ls) {r : Rc} (hb : Bytes r.2) (f : Bool) : Sound (addP t ls r f).1 (addP t ls r f).2.1 ∧ ls <+: (addP t ls r f).2.1 ∧ (addP t ls r f).2.1.length ≤ ls.length + 1 ∧ (addP t ls r false).1.forced = t.forced ∧ (t.forced = t.bs.length → (addP t ls r true).1.forced = (addP t ls r true).1.bs.length) ∧ (addP t ls r f).1.room = t.room := by
  unfold addP
  by_cases hg : r.good
  · rw [if_pos hg, if_pos hg, if_pos hg]
    by_cases hl : t.room - t.bs.length < r.all.length
    · rw [if_pos hl, if_pos hl, if_pos hl]
      exact ⟨h, List.prefix_refl _, Nat.le_succ _, rfl, id, rfl⟩
    · rw [if_neg hl, if_neg hl, if_neg hl]
      have hs : (t.bs ++ r.all) = allB (ls ++ [r]) ∧ ∀ q ∈ ls ++ [r], q.good ∧ Bytes q.2 := ⟨by rw [allB_snoc, h.1], fun q hq => by
        rcases List.mem_append.1 hq with hq | hq
        · exact h.2 q hq
        · obtain rfl := List.mem_singleton.1 hq
          exact ⟨hg, hb⟩⟩
      cases f
      · exact ⟨hs, List.prefix_append _ _, by simp, rfl, fun _ => rfl, rfl⟩
      · exact ⟨hs, List.prefix_append _ _, by simp, rfl, fun _ => rfl, rfl⟩
  · rw [if_neg hg, if_neg hg, if_neg hg]
    exact ⟨h, List.prefix_refl _, Nat.le_succ _, rfl, id, rfl⟩
/-- a log that was just opened -/
theorem LgAt.opened {base : Nat} {W W' : World} {q p : Nat} {t : TS} {F : Nat → Prop} {v : Value} (hF : ∀ k, F k → base ≤ k ∧ k < W.heap.size) (hbs : base ≤ W.heap.size) (hp : F p) (h1 : W.heap.size ≤ q) (h2 : W'.heap[q]? = some (.cells #[.pointer (some ⟨p, 0, none⟩), v] 55 (0, 0))) (h3 : RW W' W.heap.size v (recsOf t.bs)) (h4 : TapeAt W' p t.opened F) (hg : W.grownBy W' (some p)) : LgAt base W' q p t.opened (recsOf t.bs) (fun _ => False) :=
  ⟨F, fun k => W.heap.size ≤ k ∧ k < W'.heap.size, h4, ⟨v, h2, LR.of_RW h3, h1, (Array.getElem?_eq_some_iff.1 h2).1⟩, fun k hf hg => by have := (hF k hf).2; omega, fun k hf => ⟨(hF k hf).1, Nat.lt_of_lt_of_le (hF k hf).2 hg.size, id⟩, fun k hg => ⟨by omega, hg.2, id⟩⟩
set_option maxRecDepth 200000 in
set_option maxHeartbeats 16000000 in
theorem wfound_calls (w : World) (one two : List Rc) (A B : Option Addr) (c d : Nat) (n : Int) (h : recK.C w A one.length one) (h' : recK.C w B two.length two) (hok : ∀ r ∈ one, RcOk r) (hok' : ∀ r ∈ two, RcOk r) (hn : -9223372036854775808 ≤ n ∧ n ≤ 9223372036854775807) :
    Calls Try.prog 7 #[.slice A one.length c, .slice B two.length d, .int .i64 n] w (Yes w) := by
  have HL := Aside0.mk h
  have HL' := Aside0.mk h'
  have HOK := Aside0.mk hok
  have HOK' := Aside0.mk hok'
  have HNB := Aside0.mk hn
  have hll : one.length ≤ 9223372036854775807 := h.2.1
  have hll' : two.length ≤ 9223372036854775807 := h'.2.1
  have HGR : Aside0 (∀ W, Below w.heap.size w W → Calls Try.prog 18 #[.slice A one.length c] W fun e w' => e = .returned (.bool (greatB one)) ∧ Below w.heap.size w w') := ⟨fun W hW => by
    refine (great_calls W one A c (Kd.C_below HL.out hW) HOK.out).mono ?_
    rintro e W' ⟨rfl, hb⟩
    exact ⟨rfl, hW.trans (hb.mono hW.size)⟩⟩
  have HGR' : Aside0 (∀ W, Below w.heap.size w W → Calls Try.prog 18 #[.slice B two.length d] W fun e w' => e = .returned (.bool (greatB two)) ∧ Below w.heap.size w w') := ⟨fun W hW => by
    refine (great_calls W two B d (Kd.C_below HL'.out hW) HOK'.out).mono ?_
    rintro e W' ⟨rfl, hb⟩
    exact ⟨rfl, hW.trans (hb.mono hW.size)⟩⟩
  clear h h' hok hok' hn
  have hcase : greatB one = true ∨ (greatB one = false ∧ greatB two = true) ∨ (greatB one = false ∧ greatB two = false) := by
    cases greatB one <;> cases greatB two <;> simp
  rcases hcase with hg | ⟨hg, hg'⟩ | ⟨hg, hg'⟩
  · rw [hg] at HGR
    clear hg
    go_enter Try.func7, Try.ntmps7
    go_wp2_with fail
    refine (HGR.out _ (Below.refl _ _)).mono ?_
    rintro e w1 ⟨rfl, hb1⟩
    have HB1 := Aside0.mk hb1
    clear hb1
    go_wp2_with fail
    refine (alive_calls _).mono ?_
    rintro e w3 ⟨rfl, hb3⟩
    have HB3 := Aside0.mk (HB1.out.trans (hb3.mono HB1.out.size))
    clear hb3
    go_wp2_with fail
    go_ret
    exact ⟨rfl, HB3.out⟩
  · rw [hg] at HGR
    rw [hg'] at HGR'
    clear hg hg'
    go_enter Try.func7, Try.ntmps7
    go_wp2_with fail
    refine (HGR.out _ (Below.refl _ _)).mono ?_
    rintro e w1 ⟨rfl, hb1⟩
    have HB1 := Aside0.mk hb1
    clear hb1
    go_wp2_with fail
    refine (HGR'.out _ HB1.out).mono ?_
    rintro e w2 ⟨rfl, hb2⟩
    have HB2 := Aside0.mk hb2
    clear hb2
    go_wp2_with fail
    refine (alive_calls _).mono ?_
    rintro e w3 ⟨rfl, hb3⟩
    have HB3 := Aside0.mk (HB2.out.trans (hb3.mono HB2.out.size))
    clear hb3
    go_wp2_with fail
    go_ret
    exact ⟨rfl, HB3.out⟩
  · rw [hg] at HGR
    rw [hg'] at HGR'
    obtain ⟨hl20, _⟩ := great_no hg
    obtain ⟨hl20', _⟩ := great_no hg'
    clear hg hg'
    go_enter Try.func7, Try.ntmps7
    go_wp2_with fail
    refine (HGR.out _ (Below.refl _ _)).mono ?_
    rintro e w1 ⟨rfl, hb1⟩
    have HB1 := Aside0.mk hb1
    clear hb1
    go_wp2_with fail
    refine (HGR'.out _ HB1.out).mono ?_
    rintro e w2 ⟨rfl, hb2⟩
    have HB2 := Aside0.mk hb2
    clear hb2 HB1
    go_wp2_with fail
    refine (new_good w2 65536 (by decide) (by decide)).mono ?_
    rintro e w3 ⟨rfl, ht3, hb3⟩
    obtain ⟨p, hp⟩ : ∃ p, p = w2.heap.size := ⟨_, rfl⟩
    have HPW : Aside0 (w.heap.size ≤ p) := ⟨by rw [hp]; exact HB2.out.size⟩
    have HT3 : Aside0 (TapeAt w3 p ⟨65536, [], 0⟩ (fun k => w2.heap.size ≤ k ∧ k < w3.heap.size)) := ⟨by rw [hp]; exact ht3.mono (fun k h hl => ⟨h, hl⟩)⟩
    have HB3 := Aside0.mk (HB2.out.trans (hb3.mono HB2.out.size))
    have HS23 := Aside0.mk hb3.size
    rw [← hp]
    clear ht3 hb3 hp
    go_wp2_with fail
    refine (open_calls w3 p _ _ HT3.out).mono ?_
    rintro e w4 ⟨q, A4, c4, v4, rfl, _, hq4, hh4, hr4, ht4, hg4⟩
    have hFp : (fun k => w2.heap.size ≤ k ∧ k < w3.heap.size) p := by obtain ⟨_, _, _, _, hp, _⟩ := HT3.out; exact hp
    have hL4 := LgAt.opened (base := w.heap.size) (fun k h => ⟨Nat.le_trans HB2.out.size h.1, h.2⟩) HB3.out.size hFp hq4 hh4 hr4 ht4 hg4
    have hto : TS.opened ⟨65536, [], 0⟩ = ⟨65536, [], 0⟩ ∧ recsOf [] = [] := ⟨by unfold TS.opened recsOf; dsimp only; rw [readL_nil]; rfl, by unfold recsOf; rw [readL_nil]; rfl⟩
    dsimp only at hL4 ⊢
    rw [hto.1, hto.2] at hL4
    rw [hto.2]
    have HL4 := Aside0.mk hL4
    have HB4 := Aside0.mk (HB3.out.grown hg4 HB3.out.size (fun k e => by injection e with e; subst e; exact HPW.out))
    clear hq4 hh4 hr4 ht4 hg4 hFp hL4 hto
    go_wp2_with fail
    go_loopw [12] (fun v12 wr => ∃ (i : Nat) (t : TS) (ls : List Rc), i ≤ one.length ∧ v12 = .int .i64 i ∧ Aside0 (Below w.heap.size w wr) ∧ Aside0 (LgAt w.heap.size wr q p t ls (fun _ => False)) ∧ Aside0 (Sound t ls ∧ t.forced = t.bs.length ∧ ls.length ≤ i)) (fun v _ => one.length - (intOf v).toNat)
    case atStart => exact ⟨0, _, _, by omega, rfl, HB4, HL4, ⟨⟨rfl, fun r hr => (nomatch hr)⟩, rfl, Nat.le_refl _⟩⟩
    case round =>
      obtain ⟨i, t, ls, hi, rfl, HB, HT, HS⟩ := hrel
      have HLN : Aside0 (ls.length ≤ 20) := ⟨by have := HS.out.2.2; omega⟩
      by_cases hlt : i < one.length
      · have hlt' : (i : Int) < (one.length : Int) := by omega
        obtain ⟨ad, B1, c1, rfl, k0, k1, hcap, hrd⟩ := rec_at (Kd.C_below HL.out HB.out) hlt (0, [])
        have HM := Aside0.mk (rec_mem hlt (0, []))
        have hrd0 := rec_at HL.out hlt (0, [])
        obtain ⟨ad0, B0, c0, e0, k0', k1', _, hrd0⟩ := hrd0
        cases e0
        have hbb : B1 = B0 ∧ c1 = c0 := by
          have := (HB.out.cell (World.block_lt_of_cell? _ _ k1')).trans k1'
          rw [k1] at this
          injection this with this
          injection this with e1 e2 e3
          exact ⟨e1, e3⟩
        obtain ⟨rfl, rfl⟩ := hbb
        clear k0' k1'
        obtain ⟨o, ho⟩ : ∃ o, o = one.getD i (0, []) := ⟨_, rfl⟩
        rw [← ho] at k0 k1 hcap hrd0 HM
        have HOI := Aside0.mk (HOK.out _ HM.out)
        have HAC := Aside0.mk (add_calls wr w.heap.size q p t ls (fun _ => False) o B1 c1 true HT.out (fun _ h => h.elim) HB.out.size (fun W hK => Kd.C_below hrd0 (HB.out.trans hK.below)) hcap HOI.out.2.1 (by have := HLN.out; omega))
        clear ho hcap hrd hrd0
        go_wp2_with fail
        refine HAC.out.mono ?_
        rintro e w5 ⟨rfl, ht5, hk5⟩
        have hsd := addP_sound HS.out.1 HOI.out.2.1 true
        have HB5 := Aside0.mk (HB.out.trans hk5.below)
        have HT5 := Aside0.mk ht5
        have HS5 : Aside0 (Sound (addP t ls o true).1 (addP t ls o true).2.1 ∧ (addP t ls o true).1.forced = (addP t ls o true).1.bs.length ∧ (addP t ls o true).2.1.length ≤ i + 1) := ⟨hsd.1, hsd.2.2.2.2.1 HS.out.2.1, by have := hsd.2.2.1; have := HS.out.2.2; omega⟩
        obtain ⟨t5, ht5'⟩ : ∃ t5, t5 = (addP t ls o true).1 := ⟨_, rfl⟩
        obtain ⟨l5, hl5'⟩ : ∃ l5, l5 = (addP t ls o true).2.1 := ⟨_, rfl⟩
        rw [← ht5', ← hl5'] at HT5 HS5
        clear ht5 hk5 k0 k1 hsd HAC ht5' hl5'
        go_wp2_with fail
        exact ⟨⟨i + 1, t5, l5, by omega, by go_num, HB5, HT5, HS5⟩, by simp [intOf]; omega⟩
      · have hlt' : ¬ (i : Int) < (one.length : Int) := by omega
        have HRC : Aside0 (Calls Try.prog 26 #[.pointer (some ⟨q, 0, none⟩)] wr fun e w' => ∃ v, e = .returned v ∧ RW w' wr.heap.size v ls ∧ Below wr.heap.size wr w') := ⟨by
          obtain ⟨F, G, _, h2, _⟩ := HT.out
          exact records_calls wr q p ls G h2 (fun r hr => by have := (HS.out.1.2 r hr).1.2.2; omega) (by have := HLN.out; omega)⟩
        clear hlt
        go_wp2_with fail
        refine HRC.out.mono ?_
        rintro e w5 ⟨v5, rfl, hr5, hb5⟩
        obtain ⟨A5, c5, rfl⟩ := hr5.form
        have HT5 := Aside0.mk (HT.out.below hb5)
        have HB5 := Aside0.mk (HB.out.trans (hb5.mono HB.out.size))
        obtain ⟨s, hs⟩ : ∃ s, s = ls := ⟨_, rfl⟩
        have HSS : Aside0 (Sound t ls ∧ t.forced = (allB s).length ∧ s <+: ls ∧ ls.length ≤ 20) := ⟨HS.out.1, by rw [HS.out.2.1, HS.out.1.1, hs], by rw [hs]; exact List.prefix_refl _, HLN.out⟩
        obtain ⟨ns, hns⟩ : ∃ ns, ns = ls.length := ⟨_, rfl⟩
        have HNS : Aside0 (ns = s.length) := ⟨by rw [hns, hs]⟩
        rw [← hns]
        clear hr5 hb5 HRC HS HT HLN hns hs
        go_wp2_with fail
        go_loopw [14] (fun v14 wr2 => ∃ (j : Nat) (t2 : TS) (l2 : List Rc), j ≤ two.length ∧ v14 = .int .i64 j ∧ Aside0 (Below w.heap.size w wr2) ∧ Aside0 (LgAt w.heap.size wr2 q p t2 l2 (fun _ => False)) ∧ Aside0 (Sound t2 l2 ∧ t2.forced = (allB s).length ∧ s <+: l2 ∧ l2.length ≤ 20 + j)) (fun v _ => two.length - (intOf v).toNat)
        case atStart => exact ⟨0, t, ls, by omega, rfl, HB5, HT5, HSS⟩
        case round =>
          obtain ⟨j, t2, l2, hj, rfl, HB6, HT6, HS6⟩ := hrel
          have HLN2 : Aside0 (l2.length ≤ 40) := ⟨by have := HS6.out.2.2.2; omega⟩
          by_cases hlt2 : j < two.length
          · have hlt2' : (j : Int) < (two.length : Int) := by omega
            obtain ⟨ad, B1, c1, rfl, k0, k1, hcap, hrd⟩ := rec_at (Kd.C_below HL'.out HB6.out) hlt2 (0, [])
            have HM := Aside0.mk (rec_mem hlt2 (0, []))
            have hrd0 := rec_at HL'.out hlt2 (0, [])
            obtain ⟨ad0, B0, c0, e0, k0', k1', _, hrd0⟩ := hrd0
            cases e0
            have hbb : B1 = B0 ∧ c1 = c0 := by
              have := (HB6.out.cell (World.block_lt_of_cell? _ _ k1')).trans k1'
              rw [k1] at this
              injection this with this
              injection this with e1 e2 e3
              exact ⟨e1, e3⟩
            obtain ⟨rfl, rfl⟩ := hbb
            clear k0' k1'
            obtain ⟨o, ho⟩ : ∃ o, o = two.getD j (0, []) := ⟨_, rfl⟩
            rw [← ho] at k0 k1 hcap hrd0 HM
            have HOI := Aside0.mk (HOK'.out _ HM.out)
            have HAC := Aside0.mk (add_calls wr w.heap.size q p t2 l2 (fun _ => False) o B1 c1 false HT6.out (fun _ h => h.elim) HB6.out.size (fun W hK => Kd.C_below hrd0 (HB6.out.trans hK.below)) hcap HOI.out.2.1 (by have := HLN2.out; omega))
            clear ho hcap hrd hrd0
            go_wp2_with fail
            refine HAC.out.mono ?_
            rintro e w7 ⟨rfl, ht7, hk7⟩
            have hsd := addP_sound HS6.out.1 HOI.out.2.1 false
            have HB7 := Aside0.mk (HB6.out.trans hk7.below)
            have HT7 := Aside0.mk ht7
            have HS7 : Aside0 (Sound (addP t2 l2 o false).1 (addP t2 l2 o false).2.1 ∧ (addP t2 l2 o false).1.forced = (allB s).length ∧ s <+: (addP t2 l2 o false).2.1 ∧ (addP t2 l2 o false).2.1.length ≤ 20 + (j + 1)) := ⟨hsd.1, by rw [hsd.2.2.2.1]; exact HS6.out.2.1, HS6.out.2.2.1.trans hsd.2.1, by have := hsd.2.2.1; have := HS6.out.2.2.2; omega⟩
            obtain ⟨t7, ht7'⟩ : ∃ t7, t7 = (addP t2 l2 o false).1 := ⟨_, rfl⟩
            obtain ⟨l7, hl7'⟩ : ∃ l7, l7 = (addP t2 l2 o false).2.1 := ⟨_, rfl⟩
            rw [← ht7', ← hl7'] at HT7 HS7
            clear ht7 hk7 k0 k1 hsd HAC ht7' hl7'
            go_wp2_with fail
            exact ⟨⟨j + 1, t7, l7, by omega, by go_num, HB7, HT7, HS7⟩, by simp [intOf]; omega⟩
          · have hlt2' : ¬ (j : Int) < (two.length : Int) := by omega
            have hsd := HS6.out
            have HPL : Aside0 (p < wr.heap.size) := ⟨by obtain ⟨F, G, ⟨_, _, hh, _⟩, _⟩ := HT6.out; exact (Array.getElem?_eq_some_iff.1 hh).1⟩
            have HRC : Aside0 (Calls Try.prog 26 #[.pointer (some ⟨q, 0, none⟩)] wr fun e w' => ∃ v, e = .returned v ∧ RW w' wr.heap.size v l2 ∧ Below wr.heap.size wr w') := ⟨by
              obtain ⟨F, G, _, h2, _⟩ := HT6.out
              exact records_calls wr q p l2 G h2 (fun r hr => by have := (HS6.out.1.2 r hr).1.2.2; omega) (by have := HLN2.out; omega)⟩
            clear hlt2
            go_wp2_with fail
            refine HRC.out.mono ?_
            rintro e w8 ⟨v8, rfl, hr8, hb8⟩
            obtain ⟨A8, c8, rfl, hc8⟩ := (LR.of_RW hr8).form
            have HR8 := Aside0.mk hr8
            have HC8 := Aside0.mk hc8
            have HB8 := Aside0.mk (HB6.out.trans (hb8.mono HB6.out.size))
            obtain ⟨F, G, a1, _⟩ := HT6.out.below hb8
            have HA1 := Aside0.mk a1
            have HS8 := Aside0.mk hb8.size
            clear hr8 hc8 hb8 a1 HRC
            go_wp2_with fail
            refine (crash_calls w8 p t2 F n HA1.out HNB.out).mono ?_
            rintro e w9 ⟨rfl, ht9, hg9⟩
            have HT9 := Aside0.mk ht9
            have HR9 := Aside0.mk (HR8.out.move (W' := w9) (fun k h1 h2 => hg9.block k h2 (fun e => by injection e with e; have := HPL.out; omega)))
            have HB9 := Aside0.mk (HB8.out.grown hg9 HB8.out.size (fun k e => by injection e with e; subst e; exact HPW.out))
            have HS9 := Aside0.mk (Nat.le_trans HS8.out hg9.size)
            clear ht9 hg9
            have htl : t2.forced ≤ t2.left n ∧ t2.left n ≤ t2.bs.length := TS.left_le (LgAt.ok HT6.out) n
            obtain ⟨kk, kk1, kk2, kk3⟩ := found_front (fun r hr => (hsd.1.2 r hr).1) hsd.2.2.1 (n := t2.left n) (by rw [← hsd.2.1]; exact htl.1) (by rw [← hsd.1.1]; exact htl.2)
            have hcb : (t2.crash n).bs = (allB l2).take (t2.left n) := by unfold TS.crash; dsimp only; rw [hsd.1.1]
            have HRC9 : Aside0 (recsOf (t2.crash n).bs = l2.take kk) := ⟨by rw [hcb]; exact kk3⟩
            have HOC := Aside0.mk (open_calls w9 p _ _ HT9.out)
            unfold RetOp at HOC
            rw [HRC9.out] at HOC
            have HTK : Aside0 ((l2.take kk).length = kk) := ⟨by rw [List.length_take]; omega⟩
            rw [HTK.out] at HOC
            have HKK : Aside0 (s.length ≤ kk ∧ kk ≤ l2.length) := ⟨kk2, kk1⟩
            clear htl kk1 kk2 kk3 hcb hsd
            go_wp2_with fail
            refine HOC.out.mono ?_
            rintro e w10 ⟨q10, A10, c10, v10, rfl, hr10, _, _, _, _, hg10⟩
            have HR10 := Aside0.mk hr10
            have HRA := Aside0.mk (HR9.out.move (W' := w10) (fun k h1 h2 => hg10.block k h2 (fun e => by injection e with e; have := HPL.out; omega)))
            have HB10 := Aside0.mk (HB9.out.grown hg10 HB9.out.size (fun k e => by injection e with e; subst e; exact HPW.out))
            clear hr10 hg10 HOC
            go_wp2_with fail
            refine (alive_calls _).mono ?_
            rintro e w11 ⟨rfl, hb11⟩
            have HB11 := Aside0.mk (HB10.out.trans (hb11.mono HB10.out.size))
            have HLB : Aside0 (∀ r ∈ l2.take kk, Bytes r.2) := ⟨fun r hr => (HS6.out.1.2 r (List.mem_of_mem_take hr)).2⟩
            have HCF : recK.C w11 A10 (l2.take kk).length (l2.take kk) := by
              exact Kd.C_below (RW.C HR10.out (by rw [HTK.out]; have := HLN2.out; have := HKK.out.2; omega)) hb11
            have HCA : recK.C w11 A8 l2.length l2 := Kd.C_below (RW.C HRA.out (by have := HLN2.out; omega)) hb11
            have HSM := Aside0.mk (same_calls w11 (l2.take kk) (l2.take kk) A10 A8 c10 c8 HCF (Kd.C_take HCA HKK.out.2) HLB.out HLB.out)
            rw [HTK.out, show sameB (l2.take kk) (l2.take kk) = true by simp [sameB]] at HSM
            obtain ⟨m, hm⟩ : ∃ m, m = l2.length := ⟨_, rfl⟩
            have hkm : kk ≤ m := by rw [hm]; exact HKK.out.2
            have hm40 : m ≤ 40 := by rw [hm]; exact HLN2.out
            have hnk : ns ≤ kk := by rw [HNS.out]; exact HKK.out.1
            obtain ⟨i0, hi0, _, _, _⟩ := info_parts info_rec
            have hcut2 := cut_to (P := Try.prog) 30 24 .i64 Try.underlying30 hi0 A8 m c8 (kk : Int) (by omega) (by omega) (by rw [hm]; exact HC8.out)
            simp only [Int.toNat_natCast] at hcut2
            rw [← hm]
            have y1 : (ns : Int) ≤ (kk : Int) := by omega
            have y2 : (kk : Int) ≤ (m : Int) := by omega
            clear hb11 HCF HCA hm hi0 hkm hnk
            go_wp2_with fail
            refine HSM.out.mono ?_
            rintro e w12 ⟨rfl, hb12⟩
            have HB12 := Aside0.mk (HB11.out.trans (hb12.mono HB11.out.size))
            clear hb12
            go_wp2_with fail
            go_ret
            exact ⟨rfl, HB12.out⟩
end Go.Proofs.Ytcnohnieoecpdaa.Oct
