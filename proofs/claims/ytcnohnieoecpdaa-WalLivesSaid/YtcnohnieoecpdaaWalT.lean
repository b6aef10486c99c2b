import Derived.Test.YtcnohnieoecpdaaWalS
/- WalTwice. -/
namespace Go.Proofs.Ytcnohnieoecpdaa.Oct
open Go.RowKit Go.Proofs.YtcnohnieoecpdaaW.PrintWords Go.Proofs.Ytcnohnieoecpdaa.M
set_option linter.unusedVariables false
set_option linter.unusedSimpArgs false
theorem RetOp.keeps {w w' : World} {p : Nat} {F : Nat → Prop} {t : TS} {e : Ending} (h : RetOp w p F t e w') : w.grownBy w' (some p) := by
  obtain ⟨q, A, c, v, _, _, _, _, _, _, h⟩ := h
  exact h
set_option maxRecDepth 200000 in
set_option maxHeartbeats 8000000 in
theorem wtwice_calls (w : World) (b : List Int) (A : Option Addr) (c : Nat) (h : Kd.C (Kd.int .u8) w A b.length b) (hb : Bytes b) :
    Calls Try.prog 6 #[.slice A b.length c] w (Yes w) := by
  have HX := Aside0.mk h
  have HXB := Aside0.mk hb
  have hbl : b.length ≤ 9223372036854775807 := h.2.1
  clear h hb
  by_cases h3 : (3000 : Int) < (b.length : Int)
  · go_enter Try.func6, Try.ntmps6
    go_wp2_with fail
    refine (alive_calls _).mono ?_
    rintro e w3 ⟨rfl, hb3⟩
    have HB3 := Aside0.mk hb3
    clear hb3
    go_wp2_with fail
    go_ret
    exact ⟨rfl, HB3.out⟩
  · have HAP : Aside0 ((TS.mk 65536 [] 0).append b = (TS.mk 65536 b 0, 0)) := ⟨by unfold TS.append; rw [if_neg (by show ¬ 65536 - 0 < b.length; omega)]; rfl⟩
    have HL3 : Aside0 (b.length ≤ 3000) := ⟨by omega⟩
    go_enter Try.func6, Try.ntmps6
    go_wp2_with fail
    refine (new_good _ 65536 (by decide) (by decide)).mono ?_
    rintro e w1 ⟨rfl, ht1, hb1⟩
    obtain ⟨p, hp⟩ : ∃ p, p = w.heap.size := ⟨_, rfl⟩
    have HPW : Aside0 (w.heap.size ≤ p) := ⟨by omega⟩
    have HT1 : Aside0 (TapeAt w1 p ⟨65536, [], 0⟩ (fun k => w.heap.size ≤ k)) := ⟨by rw [hp]; exact ht1⟩
    have HB1 := Aside0.mk hb1
    rw [← hp]
    clear ht1 hb1 hp
    go_wp2_with fail
    refine (append_calls w1 p _ _ A c b HT1.out (Kd.C_below HX.out HB1.out) HXB.out).mono ?_
    rw [HAP.out]
    rintro e w2 ⟨rfl, ht2, hg2⟩
    have HT2 : Aside0 (TapeAt w2 p ⟨65536, b, 0⟩ (fun k => w.heap.size ≤ k)) := ⟨ht2.mono (fun k h _ => h.elim id (fun h => Nat.le_trans HB1.out.size h))⟩
    have HB2 := Aside0.mk (HB1.out.grown hg2 HB1.out.size (fun k e => by injection e with e; subst e; exact HPW.out))
    clear ht2 hg2
    go_wp2_with fail
    refine (open_calls w2 p _ _ HT2.out).mono ?_
    rintro e w3 ⟨q, A3, c3, v3, rfl, hr3, _, _, _, ht3, hg3⟩
    have HSP := Aside0.mk (recs_small HXB.out)
    have HRL := Aside0.mk (recs_le (b := b) (by have := HL3.out; omega))
    dsimp only at hr3 ht3 ⊢
    obtain ⟨l, hl⟩ : ∃ l, l = recsOf b := ⟨_, rfl⟩
    have htl : TS.opened ⟨65536, b, 0⟩ = ⟨65536, allB l, (allB l).length⟩ := by rw [hl]; rfl
    rw [htl] at ht3
    rw [← hl] at hr3 HSP HRL ⊢
    have HT3 := Aside0.mk ht3
    have HR3 := Aside0.mk hr3
    have HPL2 : Aside0 (p < w2.heap.size) := ⟨by obtain ⟨_, _, hh, _⟩ := HT2.out; exact (Array.getElem?_eq_some_iff.1 hh).1⟩
    have HB3 := Aside0.mk (HB2.out.grown hg3 HB2.out.size (fun k e => by injection e with e; subst e; exact HPW.out))
    have HS3 := Aside0.mk hg3.size
    clear ht3 hr3 hg3 hl htl
    go_wp2_with fail
    refine (bytes_calls w3 p _ _ HT3.out).mono ?_
    rintro e w4 ⟨v4, rfl, ho4, hb4⟩
    dsimp only at ho4
    obtain ⟨A4, c4, rfl, _⟩ := ho4.reads
    have HT4 := Aside0.mk (HT3.out.below hb4)
    have HR4 := Aside0.mk (HR3.out.below hb4)
    have HO4 := Aside0.mk ho4
    have HB4 := Aside0.mk (HB3.out.trans (hb4.mono HB3.out.size))
    clear ho4 hb4
    go_wp2_with fail
    refine (open_calls w4 p _ _ HT4.out).mono ?_
    have HRA := Aside0.mk (recsOf_allB (fun r hr => (HSP.out r hr).1))
    have hto : TS.opened ⟨65536, allB l, (allB l).length⟩ = ⟨65536, allB l, (allB l).length⟩ := by unfold TS.opened; dsimp only; rw [HRA.out]
    unfold RetOp
    rw [hto]
    dsimp only
    rw [HRA.out]
    rintro e w5 ⟨q5, A5, c5, v5, rfl, hr5, _, _, _, ht5, hg5⟩
    have HT5 := Aside0.mk ht5
    have HR35 := Aside0.mk (HR4.out.move (W' := w5) (fun k h1 h2 => hg5.block k h2 (fun e => by injection e with e; have := HPL2.out; omega)))
    have HO45 : Aside0 (OB w5 w3.heap.size (.slice A4 (allB l).length c4) (allB l)) := ⟨own_move (w1 := w5) HO4.out (fun k e => hg5.block k (own_lt HO4.out k e) (fun e2 => by injection e2 with e2; have h1 := own_base HO4.out k e; have h2 := HPL2.out; have h3 := HS3.out; omega))⟩
    have HR5 := Aside0.mk hr5
    have HB5 := Aside0.mk (HB4.out.grown hg5 HB4.out.size (fun k e => by injection e with e; subst e; exact HPW.out))
    clear ht5 hr5 hg5 hto
    obtain ⟨ys, hys⟩ : ∃ ys, ys = allB l := ⟨_, rfl⟩
    rw [← hys] at HT5 HO45
    rw [← hys]
    have HLB : Aside0 (∀ r ∈ l, Bytes r.2) := ⟨fun r hr => (HSP.out r hr).2⟩
    have hll : l.length ≤ 65536 := HRL.out
    obtain ⟨S, hS⟩ : ∃ S, S = strOfNums ys := ⟨_, rfl⟩
    obtain ⟨n, hn⟩ : ∃ n, n = l.length := ⟨_, rfl⟩
    obtain ⟨m, hm⟩ : ∃ m, m = ys.length := ⟨_, rfl⟩
    have HC1 : Aside0 (∀ W, Below w5.heap.size w5 W → Calls Try.prog 17 #[.slice A3 n c3, .slice A5 n c5] W (fun e W' => e = .returned (.bool true) ∧ Below w5.heap.size w5 W')) := ⟨fun W hW => by
      have := same_calls W l l A3 A5 c3 c5 (Kd.C_below (RW.C HR35.out (by omega)) hW) (Kd.C_below (RW.C HR5.out (by omega)) hW) HLB.out HLB.out
      rw [show sameB l l = true by simp [sameB], ← hn] at this
      refine this.mono ?_
      rintro e W' ⟨rfl, hb⟩
      exact ⟨rfl, hW.trans (hb.mono hW.size)⟩⟩
    have HC0 : Aside0 (∀ W, Below w5.heap.size w5 W → Calls Try.prog 11 #[] W (fun e W' => e = .returned (.bool true) ∧ Below w5.heap.size w5 W')) := ⟨fun W hW => by
      refine (alive_calls W).mono ?_
      rintro e W' ⟨rfl, hb⟩
      exact ⟨rfl, hW.trans (hb.mono hW.size)⟩⟩
    have HC2 : Aside0 (∀ W, Below w5.heap.size w5 W → Calls Try.prog 22 #[.pointer (some ⟨p, 0, none⟩)] W (fun e W' => ∃ Av cv, e = .returned (.slice Av m cv) ∧ (∀ W2, Below W'.heap.size W' W2 → (convert 22 9 (.slice Av m cv)).run Try.prog W2 = .ok (.string S) W2) ∧ Below w5.heap.size w5 W')) := ⟨fun W hW => by
      refine (bytes_calls W p _ _ (HT5.out.below hW)).mono ?_
      rintro e W' ⟨v, rfl, ho, hb⟩
      dsimp only at ho
      obtain ⟨Av, cv, rfl, _⟩ := ho.reads
      rw [hm, hS]
      exact ⟨Av, cv, rfl, fun W2 h2 => (ho.below h2).string, hW.trans (hb.mono hW.size)⟩⟩
    have HC3 : Aside0 (∀ W, Below w5.heap.size w5 W → Calls Try.prog 23 #[.pointer (some ⟨p, 0, none⟩)] W (fun e W' => e = .returned (.int .i64 m) ∧ W' = W)) := ⟨fun W hW => by rw [hm]; exact forced_calls W p _ _ (HT5.out.below hW)⟩
    have HC4 : Aside0 (∀ W, Below w5.heap.size w5 W → Calls Try.prog 24 #[.pointer (some ⟨p, 0, none⟩)] W (fun e W' => e = .returned (.int .i64 m) ∧ W' = W)) := ⟨fun W hW => by rw [hm]; exact len_calls W p _ _ (HT5.out.below hW)⟩
    have HCV : Aside0 (∀ W, Below w5.heap.size w5 W → (convert 22 9 (.slice A4 m c4)).run Try.prog W = .ok (.string S) W) := ⟨fun W hW => by rw [hm, hS]; exact (HO45.out.below hW).string⟩
    have HBD : Aside0 (Below w5.heap.size w5 w5.drew) := ⟨below_drew (Below.refl _ _)⟩
    have n2 : (S.toList == S.toList) = true := beq_self_eq_true _
    have n3 : ((m : Int) == (m : Int)) = true := beq_self_eq_true _
    rw [← hn, ← hm]
    clear hys hS hn hm hll
    go_wp2_with fail
    go_region_held_law (fun W => (convert 22 9 (.slice A4 m c4)).run Try.prog W = .ok (.string S) W) (exact HCV.out _ (Aside0.out (by assumption)))
      (first
       | (go_at_call 11; refine (HC0.out _ (Aside0.out (by assumption))).mono ?_; rintro e wa ⟨rfl, hba⟩; have HBa := Aside0.mk hba; clear hba)
       | (go_at_call 17; refine (HC1.out _ (Aside0.out (by assumption))).mono ?_; rintro e wb ⟨rfl, hbb⟩; have HBb := Aside0.mk hbb; clear hbb)
       | (go_at_call 22; refine (HC2.out _ (Aside0.out (by assumption))).mono ?_; rintro e wc ⟨Av, cv, rfl, hcv, hbc⟩; have hcv1 := hcv _ (Below.refl _ _); have HBc := Aside0.mk hbc; clear hcv hbc)
       | (go_at_call 23; refine (HC3.out _ (Aside0.out (by assumption))).mono ?_; rintro e wd ⟨rfl, hwd⟩; have hwd := hwd.symm; subst hwd)
       | (go_at_call 24; refine (HC4.out _ (Aside0.out (by assumption))).mono ?_; rintro e wd ⟨rfl, hwd⟩; have hwd := hwd.symm; subst hwd))
    all_goals
      go_wp2_with fail
      go_ret
      exact ⟨rfl, HB5.out.trans (HBc.out.mono HB5.out.size)⟩
end Go.Proofs.Ytcnohnieoecpdaa.Oct
