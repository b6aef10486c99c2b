import Derived.Test.YtcicehldhelmbaaTapeR
import Derived.Deep.RegionHeldLaw
namespace Go.Proofs.Ytcicehldhelmbaa.Oct
open Go.RowKit Go.Proofs.YtcicehldhelmbaaW.PrintWords Go.Proofs.Ytcicehldhelmbaa.M
set_option linter.unusedVariables false
set_option linter.unusedSimpArgs false
/-- bytes of one's own above a mark, and one of them stored -/
theorem own_put {W : World} {top m c : Nat} {A : Option Addr} (h : ∃ zs : List Int, zs.length = m ∧ OB W top (.slice A m c) zs) {k : Nat} (hk : k < m) :
    ∃ g z, A = some ⟨g, 0, none⟩ ∧ top ≤ g ∧ W.cell? ⟨g, k, none⟩ = some (.int .u8 z) ∧ W.frozen? ⟨g, k, none⟩ = false ∧ ∀ x, ∃ zs : List Int, zs.length = m ∧ OB (W.setCell ⟨g, k, none⟩ (.int .u8 x)) top (.slice A m c) zs := by
  obtain ⟨zs, hl, ho⟩ := h
  obtain ⟨g, cap, hv, hg1, hg2⟩ := ho.form (by omega)
  injection hv with hA _ hc
  subst hA hc
  have ho' : W.ownsRow top 5 1 (.slice (some ⟨g, 0, none⟩) m c) m (nums .u8 zs) := by unfold OB at ho; rwa [hl] at ho
  obtain ⟨hc, hf⟩ := own_at ho' (k : Int) (by omega) (by omega)
  rw [Int.toNat_natCast] at hc hf
  refine ⟨g, _, rfl, hg1, hc, hf, fun x => ⟨zs.set k x, by simp [hl], ?_⟩⟩
  have hp := own_store ho' (k : Int) x
  rw [Int.toNat_natCast] at hp
  have := hp.1
  unfold OB
  rw [List.length_set, hl]
  exact this
theorem TRB.old {base top : Nat} {W : World} {p q : Nat} {t u : TS} (h : TRB base top W p t q u) : ∃ A d, W.cell? ⟨q, 1, none⟩ = some (.slice A u.forced d) := by
  obtain ⟨F, G, _, ⟨v1, v2, xs, ys, h1, h2, hh, ho1, _⟩, _⟩ := h
  obtain ⟨A, d, rfl, _⟩ := ho1.reads
  exact ⟨A, d, by rw [h2]; exact (three_cells hh).2.1⟩
set_option maxRecDepth 20000 in
set_option maxHeartbeats 4000000 in
theorem lives_good (w : World) (room : Nat) (l : List OpS) (A : Option Addr) (c : Nat) (h : opK.C w A l.length l) (ho : ∀ o ∈ l, OpS.ok o) (hol : ∀ o ∈ l, o.2.2.length ≤ 140737488355328) (hr1 : 1 ≤ room) (hr2 : room ≤ 65536) :
    Calls Try.prog 3 #[.int .i64 room, .slice A l.length c] w (Yes w) := by
  have HL := Aside0.mk h
  have HOK := Aside0.mk (And.intro ho hol)
  have HRM := Aside0.mk (And.intro hr1 hr2)
  have hll : l.length ≤ 9223372036854775807 := h.2.1
  clear h ho hol hr1 hr2
  go_enter Try.func3, Try.ntmps3
  go_wp2_with fail
  refine (new_good _ room HRM.out.1 HRM.out.2).mono ?_
  rintro e w1 ⟨rfl, ht, hb⟩
  have HT1 := Aside0.mk (ht.mono (G := fun k => w.heap.size ≤ k ∧ k < w1.heap.size) (fun k hk hlt => ⟨hk, hlt⟩))
  have HB1 := Aside0.mk hb
  clear ht hb
  go_wp2_with fail
  refine (rnew_good _ room HRM.out.1 HRM.out.2).mono ?_
  rintro e w2 ⟨rfl, ht, hb⟩
  have HB2 := Aside0.mk (HB1.out.trans (hb.mono HB1.out.size))
  have H2 : Aside0 (TRB w.heap.size w2.heap.size w2 w.heap.size ⟨room, [], 0⟩ w1.heap.size ⟨room, [], 0⟩) :=
    ⟨_, fun k => w1.heap.size ≤ k ∧ k < w2.heap.size, HT1.out.below hb, ht.mono (fun k hk hlt => ⟨hk, hlt⟩), (fun k hk hg => by have := hk.2; have := hg.1; omega), (fun k hk => ⟨hk.1, Nat.lt_of_lt_of_le hk.2 hb.size⟩), (fun k hk => ⟨Nat.le_trans HB1.out.size hk.1, hk.2⟩), Nat.le_trans HB1.out.size hb.size, Nat.le_refl _⟩
  obtain ⟨p, hp⟩ : ∃ p, p = w.heap.size := ⟨_, rfl⟩
  obtain ⟨q, hq⟩ : ∃ q, q = w1.heap.size := ⟨_, rfl⟩
  have H2' : Aside0 (TRB w.heap.size w2.heap.size w2 p ⟨room, [], 0⟩ q ⟨room, [], 0⟩) := ⟨by rw [hp, hq]; exact H2.out⟩
  rw [← hq, ← hp]
  clear ht hb hp hq HT1 H2 HB1
  go_wp2_with fail
  go_loopw [9, 10, 11] (fun v9 _ _ wr => ∃ (i : Nat) (t : TS), i ≤ l.length ∧ i ≤ 30 ∧ v9 = .int .i64 i ∧ Aside0 (Below w.heap.size w wr) ∧ Aside0 (t.room = room) ∧ Aside0 (TRB w.heap.size wr.heap.size wr p t q t)) (fun v _ _ _ => l.length - (intOf v).toNat)
  case atStart => exact ⟨0, _, by omega, by omega, rfl, HB2, ⟨rfl⟩, H2'⟩
  case round =>
    obtain ⟨i, t, hi, hi30, rfl, HB, HTR, HT⟩ := hrel
    have hcase : (i < l.length ∧ i < 30) ∨ i = l.length ∨ (i < l.length ∧ i = 30) := by omega
    rcases hcase with ⟨hlt, h30⟩ | hend
    · obtain ⟨ad, B, c1, rfl, k0, k1, k2, hcap, hrd⟩ := op_at HL.out hlt (0, 0, [])
      have HM : Aside0 (l.getD i (0, 0, []) ∈ l) := ⟨by rw [List.getD_eq_getElem?_getD, List.getElem?_eq_getElem hlt]; exact List.getElem_mem hlt⟩
      have HOI := Aside0.mk (HOK.out.1 _ HM.out)
      have hbl := HOK.out.2 _ HM.out
      obtain ⟨o, ho⟩ : ∃ o, o = l.getD i (0, 0, []) := ⟨_, rfl⟩
      rw [← ho] at k0 k1 k2 hcap HOI hrd hbl
      clear ho HM
      obtain ⟨kd, n, b⟩ := o
      dsimp only at k0 k1 k2 hcap hrd hbl
      have HRD := Aside0.mk hrd
      have HC : Aside0 (∀ W, Below w.heap.size w W → W.cell? (ad.add (i * 3)) = some (.int .i64 kd) ∧ W.cell? ⟨(ad.add (i * 3)).block, (ad.add (i * 3)).off + 1, none⟩ = some (.int .i64 n) ∧ W.cell? ⟨(ad.add (i * 3)).block, (ad.add (i * 3)).off + 2, none⟩ = some (.slice B b.length c1)) := ⟨fun W hW =>
        ⟨(hW.cell (World.block_lt_of_cell? _ _ k0)).trans k0, (hW.cell (World.block_lt_of_cell? _ _ k1)).trans k1, (hW.cell (World.block_lt_of_cell? _ _ k2)).trans k2⟩⟩
      clear hrd k0 k1 k2
      obtain ⟨k0, k1, k2⟩ := HC.out _ HB.out
      by_cases h5 : 500 < b.length ∧ b.length ≤ 65536
      · obtain ⟨h51, h52⟩ := h5
        go_wp2_with fail
        refine (alive_calls _).mono ?_
        rintro e w3 ⟨rfl, hb3⟩
        have HB3 := Aside0.mk (HB.out.trans (hb3.mono HB.out.size))
        clear hb3
        go_wp2_with fail
        go_ret
        exact ⟨rfl, HB3.out⟩
      · have h5' : b.length ≤ 500 ∨ (500 < b.length ∧ 65536 < b.length) := by omega
        clear h5
        obtain ⟨t2, ht2⟩ : ∃ t2, t2 = (callT t (kd, n, b)).1 := ⟨_, rfl⟩
        obtain ⟨er, her⟩ : ∃ er, er = (callT t (kd, n, b)).2 := ⟨_, rfl⟩
        have HRM2 : Aside0 (t2.room = room) := ⟨by rw [ht2, callT_room]; exact HTR.out⟩
        have HC1 : Aside0 (∀ (W : World) (u : TS), Below w.heap.size w W → TRB w.heap.size W.heap.size W p t q u → Calls Try.prog 12 #[.pointer (some ⟨p, 0, none⟩), .agg #[.int .i64 kd, .int .i64 n, .slice B b.length c1]] W (fun e W' => e = .returned (.int .i64 er) ∧ TRB w.heap.size W'.heap.size W' p t2 q u ∧ Below w.heap.size W W')) := ⟨fun W u hW hT => by
          rw [ht2, her]
          exact hT.tape (fun F hF => call_calls W p t F kd n b B c1 hF (Kd.C_below HRD.out hW) HOI.out hbl)⟩
        have HC2 : Aside0 (∀ (W : World) (u : TS), Below w.heap.size w W → TRB w.heap.size W.heap.size W p u q t → Calls Try.prog 13 #[.pointer (some ⟨q, 0, none⟩), .agg #[.int .i64 kd, .int .i64 n, .slice B b.length c1]] W (fun e W' => e = .returned (.int .i64 er) ∧ TRB w.heap.size W'.heap.size W' p u q t2 ∧ Below w.heap.size W W')) := ⟨fun W u hW hT => by
          rw [ht2, her]
          exact hT.ref (fun F hF => model_calls W q t F kd n b B c1 hF (Kd.C_below HRD.out hW) HOI.out hbl)⟩
        clear ht2 her
        have HBD : Aside0 (Below w.heap.size w wr.drew) := ⟨below_drew HB.out⟩
        have HTD : Aside0 (TRB w.heap.size wr.drew.heap.size wr.drew p t q t) := ⟨HT.out.below (below_drew (Below.refl _ _))⟩
        rcases h5' with h5 | ⟨h5, h6⟩
        all_goals
          go_wp2_with fail
          go_region_held_law (fun w' => w'.cell? (ad.add (i * 3)) = some (.int .i64 kd) ∧ w'.cell? ⟨(ad.add (i * 3)).block, (ad.add (i * 3)).off + 1, none⟩ = some (.int .i64 n) ∧ w'.cell? ⟨(ad.add (i * 3)).block, (ad.add (i * 3)).off + 2, none⟩ = some (.slice B b.length c1)) (exact HC.out _ (Aside0.out (by assumption)))
            (first | (go_at_call 12; refine (HC1.out _ _ (Aside0.out (by assumption)) (Aside0.out (by assumption))).mono ?_; rintro e wa ⟨rfl, hta, hba⟩; have HTa := Aside0.mk hta; have HBa : Aside0 (Below w.heap.size w wa) := ⟨Below.trans (Aside0.out (by assumption)) hba⟩; clear hta hba) | (go_at_call 13; refine (HC2.out _ _ (Aside0.out (by assumption)) (Aside0.out (by assumption))).mono ?_; rintro e wb ⟨rfl, htb, hbb⟩; have HTb := Aside0.mk htb; have HBb : Aside0 (Below w.heap.size w wb) := ⟨Below.trans (Aside0.out (by assumption)) hbb⟩; clear htb hbb))
          all_goals
            go_wp2_with fail
            refine (bytes_calls _ p t2 _ HTb.out.fst).mono ?_
            rintro e w3 ⟨v, rfl, ho3, hb3⟩
            have hcap3 := ho3
            obtain ⟨A3, c3, rfl, _⟩ := ho3.reads
            have hs3 := hb3.size
            have HB3 := Aside0.mk (HBb.out.trans (hb3.mono HBb.out.size))
            have HT3 := Aside0.mk (HTb.out.below hb3)
            obtain ⟨A4, d4, hold⟩ := HT3.out.old
            obtain ⟨S, hS⟩ : ∃ S, S = strOfNums t2.bs := ⟨_, rfl⟩
            have HSS := Aside0.mk hS
            have HS : Aside0 (∀ W, Below w3.heap.size w3 W → W.cell? ⟨q, 1, none⟩ = some (.slice A4 t2.forced d4) ∧ (convert 30 9 (.slice A3 t2.bs.length c3)).run Try.prog W = .ok (.string S) W) := ⟨fun W hW => ⟨(hW.cell (World.block_lt_of_cell? _ _ hold)).trans hold, by rw [hS]; exact (ho3.below hW).string⟩⟩
            have HT4 : Aside0 (∀ W, Below w3.heap.size w3 W → TRB w.heap.size wb.heap.size W p t2 q t2 ∧ OB W wb.heap.size (.slice A3 t2.bs.length c3) t2.bs) := ⟨fun W hW => ⟨HT3.out.below (hW.mono hs3), ho3.below hW⟩⟩
            have HBS : Aside0 (Below w3.heap.size w3 w3.drew) := ⟨below_drew (Below.refl _ _)⟩
            have hne : ((t2.room : Int) != (room : Int)) = false := by rw [HRM2.out]; exact bne_self_eq_false _
            clear ho3 hb3 hcap3 hold hS HTa HBa HTD HBD HT HB HC1 HC2 HBb HTb k0 k1 k2 HT3
            go_wp2_with fail
            go_region_held_law (fun w' => w'.cell? ⟨q, 1, none⟩ = some (.slice A4 t2.forced d4) ∧ (convert 30 9 (.slice A3 t2.bs.length c3)).run Try.prog w' = .ok (.string S) w') (exact HS.out _ (Aside0.out (by assumption)))
              (first | (go_at_call 15; refine (rbytes_calls _ q t2 _ (HT4.out _ (Aside0.out (by assumption))).1.snd).mono ?_; rintro e w5 ⟨v5, rfl, ho5, hb5⟩; have HBc : Aside0 (Below w3.heap.size w3 w5) := ⟨Below.trans (Aside0.out (by assumption)) (hb5.mono (Below.size (Aside0.out (by assumption))))⟩; have hs5 := ho5.string; rw [← HSS.out] at hs5; clear ho5 hb5) | (go_at_call 16; refine (len_calls _ p t2 _ (HT4.out _ (Aside0.out (by assumption))).1.fst).mono ?_; rintro e w6 ⟨rfl, rfl⟩) | (go_at_call 17; refine (forced_calls _ p t2 _ (HT4.out _ (Aside0.out (by assumption))).1.fst).mono ?_; rintro e w6 ⟨rfl, rfl⟩) | (go_at_call 18; refine (room_calls _ p t2 _ (HT4.out _ (Aside0.out (by assumption))).1.fst).mono ?_; rintro e w6 ⟨rfl, rfl⟩))
            all_goals
              have HBE := Aside0.mk (HB3.out.trans (HBc.out.mono HB3.out.size))
              have HTE := Aside0.mk (HT4.out _ HBc.out).1
              have HVE : Aside0 (∃ zs : List Int, zs.length = t2.bs.length ∧ OB w6 wb.heap.size (.slice A3 t2.bs.length c3) zs) := ⟨t2.bs, rfl, (HT4.out _ HBc.out).2⟩
              clear hs5 HBc hne HS HT4 HBS HB3
              have hmm : t2.bs.length ≤ 65536 := Nat.le_trans HTE.out.fst.is.2.2.2.2.1 HTE.out.fst.is.2.2.2.1
              obtain ⟨m, hm⟩ : ∃ m, m = t2.bs.length := ⟨_, rfl⟩
              rw [← hm] at HVE hmm
              rw [← hm]
              clear hm
              go_wp2_with fail
              go_loopw [11] (fun v11 wq => ∃ k : Nat, k ≤ m ∧ v11 = .int .i64 k ∧ Aside0 (Below w.heap.size w wq) ∧ Aside0 (TRB w.heap.size wb.heap.size wq p t2 q t2) ∧ Aside0 (∃ zs : List Int, zs.length = m ∧ OB wq wb.heap.size (.slice A3 m c3) zs)) (fun v _ => m - (intOf v).toNat)
              case atStart => exact ⟨0, by omega, rfl, HBE, HTE, HVE⟩
              case round =>
                obtain ⟨k, hk, rfl, HBq, HTq, HVq⟩ := hrel
                by_cases hlt2 : k < m
                · obtain ⟨g, z, rfl, hg, hc, hf, hset⟩ := own_put HVq.out hlt2
                  have HX := Aside0.mk (hset 7)
                  have HTX : Aside0 (TRB w.heap.size wb.heap.size (wr.setCell ⟨g, k, none⟩ (.int .u8 7)) p t2 q t2) := ⟨HTq.out.below ((Below.refl _ _).setCell hg _)⟩
                  have HBX : Aside0 (Below w.heap.size w (wr.setCell ⟨g, k, none⟩ (.int .u8 7))) := ⟨HBq.out.setCell (by obtain ⟨_, _, _, _, _, _, _, h6, _⟩ := HTq.out; exact Nat.le_trans h6 hg) _⟩
                  clear hset
                  go_wp2_with fail
                  refine ⟨⟨k + 1, by omega, by go_num, HBX, HTX, HX⟩, by simp [intOf]; omega⟩
                · have hkm : k = m := by omega
                  have hup := HTq.out.up (top' := wr.heap.size) (by obtain ⟨_, _, _, _, _, _, _, _, h7⟩ := HTq.out; exact h7) (Nat.le_refl _)
                  have HTU := Aside0.mk hup
                  clear hup HVq HTq hmm hk HVE HTE HBE
                  have hkm' : ¬ (k : Int) < (m : Int) := by omega
                  clear hkm hlt2
                  go_wp2_with fail
                  refine ⟨⟨i + 1, t2, by omega, by omega, by go_num, HBq, HRM2, HTU⟩, by simp [intOf]; omega⟩
    · rcases hend with rfl | ⟨hlt, rfl⟩
      all_goals
        go_wp2_with fail
        refine (alive_calls _).mono ?_
        rintro e w3 ⟨rfl, hb3⟩
        have HB3 := Aside0.mk (HB.out.trans (hb3.mono HB.out.size))
        clear hb3
        go_wp2_with fail
        go_ret
        exact ⟨rfl, HB3.out⟩
end Go.Proofs.Ytcicehldhelmbaa.Oct
