import Derived.Test.YtcpkfkcemaihfaaSessZ
import Derived.Deep.CutRange
/- play. -/
namespace Go.Proofs.Ytcpkfkcemaihfaa.Oct
open Go.RowKit Go.Proofs.YtcpkfkcemaihfaaW.PrintWords Go.Proofs.Ytcpkfkcemaihfaa.M
set_option linter.unusedVariables false
set_option linter.unusedSimpArgs false
theorem PA.under {w W W' : World} {p : Nat} {o : Nat → Nat} {st : Ps} (h : PA w W p o st) (hb : Below W.heap.size W W') : PA w W' p o st := by
  obtain ⟨a, vt, vm, h⟩ := h
  exact ⟨a, vt, vm, h.under hb⟩
theorem put_len {st : Ps} {i j n : Nat} {y : List Int} (h : (st.tx i).length ≤ n) : ((st.put j y).tx i).length ≤ n + 1 := by
  unfold Ps.put
  dsimp only
  split
  · by_cases e : i = j
    · subst e
      rw [upd_same, List.length_append]
      simpa using h
    · rw [upd_ne _ _ e]; omega
  · omega
theorem send_len {st : Ps} {i j k n m : Nat} (hok : (st.e j).ok) (h : (st.mail i).length ≤ 16 * n) : ((st.send j k m).mail i).length ≤ 16 * (n + 1) := by
  have hb := (Es.frames_bound hok).2.2.2
  unfold Ps.send
  dsimp only
  by_cases e : i = k
  · subst e
    rw [upd_same, List.length_append, List.length_take]
    omega
  · rw [upd_ne _ _ e]; omega
theorem lose_len {st : Ps} {i j k n : Nat} (h : (st.mail i).length ≤ 16 * n) : ((st.lose j k).mail i).length ≤ 16 * (n + 1) := by
  unfold Ps.lose
  dsimp only
  by_cases e : i = j
  · subst e
    rw [upd_same, List.length_append, List.length_take, List.length_drop]
    omega
  · rw [upd_ne _ _ e]; omega
set_option maxRecDepth 200000 in
set_option maxHeartbeats 16000000 in
theorem pplay_calls (w W : World) (p : Nat) (o : Nat → Nat) (st : Ps) (ses : Int) (l : List PkT) (t : Bag) (A C : Option Addr) (c d : Nat) (h : PA w W p o st) (hinv : Pinv ses st) (h0 : ∀ i, i < 2 → (st.tx i).length = 0 ∧ (st.mail i).length = 0) (hl : pickK.C w A l.length l) (ht : textK.C w C t.length t) (hb : ∀ x ∈ t, Bytes x) :
    Calls Try.prog 24 #[.pointer (some ⟨p, 0, none⟩), .slice A l.length c, .slice C t.length d] W (fun e W' => e = .returned (.bool true) ∧ ∃ o' st', PA w W' p o' st' ∧ Pinv ses st' ∧ ∀ i, i < 2 → (st'.tx i).length ≤ 80) := by
  have HPA := Aside0.mk h
  have HIV := Aside0.mk hinv
  have HPK := Aside0.mk hl
  have HTX := Aside0.mk ht
  have HBY := Aside0.mk hb
  have hll : l.length ≤ 9223372036854775807 := hl.2.1
  have htl : t.length ≤ 9223372036854775807 := ht.2.1
  have HL0 : Aside0 (∀ i, i < 2 → (st.tx i).length ≤ 0) := ⟨fun i hi => by rw [(h0 i hi).1]; exact Nat.le_refl _⟩
  have HM0 : Aside0 (∀ i, i < 2 → (st.mail i).length ≤ 16 * 0) := ⟨fun i hi => by rw [(h0 i hi).2]; exact Nat.zero_le _⟩
  clear h hinv h0 hl ht hb
  go_enter Try.func24, Try.ntmps24
  go_wp2_with fail
  go_loopw [7] (fun v7 wr => ∃ (n : Nat) (st : Ps) (o2 : Nat → Nat), n ≤ l.length ∧ n ≤ 80 ∧ v7 = .int .i64 n ∧ Aside0 (PA w wr p o2 st) ∧ Aside0 (Pinv ses st) ∧ Aside0 (∀ i, i < 2 → (st.tx i).length ≤ n) ∧ Aside0 (∀ i, i < 2 → (st.mail i).length ≤ 16 * n)) (fun v _ => l.length - (intOf v).toNat)
  case atStart => exact ⟨0, st, o, by omega, by omega, rfl, HPA, HIV, HL0, HM0⟩
  case round =>
    clear HPA HIV HL0 HM0
    obtain ⟨wz, hwz⟩ : ∃ wz, wz = wr := ⟨_, rfl⟩
    subst hwz
    obtain ⟨n, st, o2, hn, hn80, rfl, HPR, HI, HLE, HMLE⟩ := hrel
    have hcase : (n < l.length ∧ n < 80) ∨ n = l.length ∨ (n < l.length ∧ n = 80) := by omega
    rcases hcase with ⟨hlt, h80⟩ | hend
    · obtain ⟨ad, rfl, k0, k1, k2⟩ := pick_at HPK.out hlt (false, 0, 0)
      obtain ⟨x, hx⟩ : ∃ x, x = l.getD n (false, 0, 0) := ⟨_, rfl⟩
      rw [← hx] at k0 k1 k2
      clear hx
      obtain ⟨sd, kd, ii⟩ := x
      dsimp only at k0 k1 k2
      obtain ⟨a2, vt2, vm2, hpv⟩ := HPR.out
      have HPV := Aside0.mk hpv
      have k0 := (hpv.below.cell (World.block_lt_of_cell? _ _ k0)).trans k0
      have k1 := (hpv.below.cell (World.block_lt_of_cell? _ _ k1)).trans k1
      have k2 := (hpv.below.cell (World.block_lt_of_cell? _ _ k2)).trans k2
      obtain ⟨K, hK, hK64⟩ := and63 ii
      clear hpv
      have hlt' : (n : Int) < (l.length : Int) := by omega
      have h80' : (n : Int) < 80 := by omega
      have hk : kd = 0 ∨ kd = 1 ∨ kd = 2 ∨ kd = 3 ∨ (kd ≠ 0 ∧ kd ≠ 1 ∧ kd ≠ 2 ∧ kd ≠ 3) := by omega
      cases sd
      · rcases hk with hk | hk | hk | hk | ⟨n0, n1, n2, n3⟩
        · have b0 : (kd == 0) = true := beq_iff_eq.2 hk
          clear hk
          by_cases hnt : n < t.length
          · have hnt' : (n : Int) < (t.length : Int) := by omega
            obtain ⟨at_, B, c1, rfl, z0, _, hrd⟩ := text_at HTX.out hnt
            have HM : Aside0 (t.getD n [] ∈ t) := ⟨by rw [List.getD_eq_getElem?_getD, List.getElem?_eq_getElem hnt]; exact List.getElem_mem hnt⟩
            have HYB := Aside0.mk (HBY.out _ HM.out)
            obtain ⟨y, hy⟩ : ∃ y, y = t.getD n [] := ⟨_, rfl⟩
            rw [← hy] at z0 hrd HYB
            have HRD := Aside0.mk hrd
            obtain ⟨m, hm⟩ : ∃ m, m = y.length := ⟨_, rfl⟩
            have HMM := Aside0.mk hm
            rw [← hm] at z0
            have hm63 : m ≤ 9223372036854775807 := by rw [hm]; exact hrd.2.1
            obtain ⟨er, her⟩ : ∃ er, er = ((st.e 0).put y).2 := ⟨_, rfl⟩
            have HER := Aside0.mk her
            obtain ⟨s1, hs1⟩ : ∃ s1, s1 = ((st.e 0).put y).1 := ⟨_, rfl⟩
            have HS1 := Aside0.mk hs1
            have HPU : Aside0 (∀ W1, Below wz.heap.size wz W1 → Calls Try.prog 12 #[.pointer (some ⟨a2 0, 0, none⟩), .slice B m c1] W1 (fun e W2 => ∃ o3, e = .returned (.int .i64 er) ∧ PV w W2 p o3 { st with e := upd st.e 0 s1 } a2 vt2 vm2 ∧ W2.cell? ⟨p, 0, none⟩ = some (.pointer (some ⟨a2 0, 0, none⟩)) ∧ W2.cell? (at_.add n) = some (.slice B m c1))) := ⟨fun W1 hW1 => by
              have hp1 := HPV.out.under hW1
              have hC := Kd.C_below HRD.out hp1.below
              rw [HMM.out]
              refine (eput_calls W1 (a2 0) (st.e 0) (fun k => o2 k = 0) B c1 y (hp1.ends 0 (by decide)) hC HYB.out).mono ?_
              rintro e W2 ⟨rfl, he, hk⟩
              have hP2 : PV w W2 p (rl W1 o2 0) { st with e := upd st.e 0 s1 } a2 vt2 vm2 := by
                rw [hs1]
                refine hp1.end_call (by decide) hk (fun k hk => rl_old hk) (rl_base hp1.base hp1.below.size) (he.mono (fun k e hl => ?_))
                rcases e with e | e
                · by_cases hkl : k < W1.heap.size
                  · show rl W1 o2 0 k = 0
                    rw [rl_old hkl]; exact e
                  · exact rl_new (by omega)
                · exact rl_new e
              refine ⟨_, by rw [her], hP2, hP2.fields.1 0 (by decide), ?_⟩
              rw [← HMM.out]
              exact (hP2.below.cell (World.block_lt_of_cell? _ _ z0)).trans z0⟩
            have hx3 := HPV.out.fields.1 0 (by decide)
            have HS : Aside0 (∀ W1, Below wz.heap.size wz W1 → W1.cell? ⟨p, 0, none⟩ = some (.pointer (some ⟨a2 0, 0, none⟩)) ∧ W1.cell? (at_.add n) = some (.slice B m c1)) := ⟨fun W1 hW1 => ⟨(hW1.cell (World.block_lt_of_cell? _ _ hx3)).trans hx3, ((HPV.out.under hW1).below.cell (World.block_lt_of_cell? _ _ z0)).trans z0⟩⟩
            have HBD0 : Aside0 (Below wz.heap.size wz wz) := ⟨Below.refl _ _⟩
            have HBD1 : Aside0 (Below wz.heap.size wz wz.drew) := ⟨below_drew (Below.refl _ _)⟩
            have HZ0 := Aside0.mk z0
            clear hy hrd hm her hs1 z0 hx3
            obtain ⟨hx3, z0⟩ := HS.out _ HBD0.out
            go_wp2_with fail
            go_region_held_law (fun W1 => W1.cell? ⟨p, 0, none⟩ = some (.pointer (some ⟨a2 0, 0, none⟩)) ∧ W1.cell? (at_.add n) = some (.slice B m c1)) (first | exact HS.out _ (Aside0.out (by assumption)) | exact Aside0.out (by assumption))
              ((go_at_call 12; refine (HPU.out _ (Aside0.out (by assumption))).mono ?_; rintro e W2 ⟨o3, rfl, hp2, hc2⟩; have HP2 := Aside0.mk hp2; have HC2 : Aside0 (W2.cell? ⟨p, 0, none⟩ = some (.pointer (some ⟨a2 0, 0, none⟩)) ∧ W2.cell? (at_.add n) = some (.slice B m c1)) := ⟨hc2⟩; clear hp2 hc2))
            all_goals
              clear hx3 z0
              by_cases he0 : er = 0
              · have hee : (er == 0) = true := by simp [he0]
                have HE0 := Aside0.mk he0
                have hz2 := HC2.out.2
                obtain ⟨vs, hv1, hv2, hv3⟩ := HP2.out.texts 0 (by decide)
                obtain ⟨A4, d4, e4, hd4, hd5⟩ := hv1.form
                have hx4 := (HP2.out.fields.2.1 0 (by decide)).1
                rw [e4] at hx4
                obtain ⟨q, hq⟩ : ∃ q, q = (st.tx 0).length := ⟨_, rfl⟩
                have HN := Aside0.mk hq
                have HLEN : Aside0 (q ≤ 1000000) := ⟨by rw [hq]; have := HLE.out 0 (by decide); omega⟩
                have hx4 : W2.cell? ⟨p, 2, none⟩ = some (.slice A4 q d4) := by rw [hq]; exact hx4
                have HV2 : Aside0 (∀ W3, Below W2.heap.size W2 W3 → OwnAt W3 0 38 1 (.slice A4 q d4) q vs) := ⟨fun W3 hW => by
                  have := hv1.move (fun k e => hW.block k (hv1.block e).2)
                  rw [e4] at this
                  rw [hq]
                  exact this⟩
                have HHV := Aside0.mk (And.intro hv1 (And.intro hv2 hv3))
                have HE4 : Aside0 (vt2 0 = .slice A4 q d4) := ⟨by rw [hq]; exact e4⟩
                have HPB : Aside0 (∀ w4, W2.grownBy w4 (Value.slice A4 q d4).ownBlock → w4.cell? ⟨p, 2, none⟩ = some (.slice A4 q d4) ∧ w4.frozen? ⟨p, 2, none⟩ = false) := ⟨fun w4 hg => by
                  have hpb : w4.heap[p]? = W2.heap[p]? := hg.block p (Array.getElem?_eq_some_iff.1 HP2.out.cells).1 (fun e => by
                    have h1 := HP2.out.op
                    rw [← HE4.out] at e
                    have := HHV.out.2.1 p e.symm
                    omega)
                  have h1 := HP2.out.fields.2.1 0 (by decide)
                  rw [HE4.out] at h1
                  have hcell : ∀ j, w4.cell? ⟨p, j, none⟩ = W2.cell? ⟨p, j, none⟩ := fun j => by unfold World.cell?; rw [hpb]
                  have hfr : ∀ j, w4.frozen? ⟨p, j, none⟩ = W2.frozen? ⟨p, j, none⟩ := fun j => by unfold World.frozen?; rw [hpb]
                  exact ⟨(hcell _).trans h1.1, (hfr _).trans h1.2⟩⟩
                obtain ⟨BX, hBX⟩ : ∃ BX, BX = Obj.cells #[.slice B m c1] 38 := ⟨_, rfl⟩
                have hkeep : ∀ {ad : Addr} {v : Value}, W2.cell? ad = some v → (W2.drew.cell? ad = some v ∧ (W2.alloc BX).cell? ad = some v ∧ (W2.drew.alloc BX).cell? ad = some v ∧ (W2.alloc BX).drew.cell? ad = some v) := fun {ad v} h =>
                  have hl := World.block_lt_of_cell? _ _ h
                  ⟨((below_drew (Below.refl _ _)).cell hl).trans h, ((below_alloc (Below.refl _ _) _).cell hl).trans h, ((below_alloc (below_drew (Below.refl _ _)) _).cell hl).trans h, ((below_drew (below_alloc (Below.refl _ _) _)).cell hl).trans h⟩
                obtain ⟨y1, y2, y3, y4⟩ := hkeep hx4
                obtain ⟨x1, x2, x3, x4⟩ := hkeep hz2
                rw [hBX] at y2 y3 y4 x2 x3 x4
                clear hv1 hv2 hv3 e4 hd4 hd5 hq hBX hkeep he0
                go_wp2_with fail
                go_region_law (refine step_row rfl (.tmp 63) (.tmp 68) rfl (.slice A4 q d4) vs q (.slice B m c1) W2.heap.size rfl rfl (HV2.out _ (by first | exact below_alloc (Below.refl _ _) _ | exact below_drew (below_alloc (Below.refl _ _) _) | exact below_alloc (below_drew (Below.refl _ _)) _)) (by first | exact heap_alloc_new W2 _ | exact heap_alloc_new W2.drew _) rfl HLEN.out ?_; intro v1 w4 ho1 hg1 hn1; obtain ⟨A5, d5, rfl, _⟩ := ho1.form; have HG0 : Aside0 (W2.grownBy w4 (Value.slice A4 q d4).ownBlock) := ⟨by first | exact grown_below (below_alloc (Below.refl _ _) _) hg1 | exact grown_below (below_drew (below_alloc (Below.refl _ _) _)) hg1 | exact grown_below (below_alloc (below_drew (Below.refl _ _)) _) hg1⟩; obtain ⟨e0, g0⟩ := HPB.out _ HG0.out; have HO1 := Aside0.mk ho1; have HN1 : Aside0 ((Value.slice A5 (q + 1) d5).ownBlock = (Value.slice A4 q d4).ownBlock ∨ ∃ b, (Value.slice A5 (q + 1) d5).ownBlock = some b ∧ W2.heap.size ≤ b) := ⟨hn1.imp id (fun ⟨b, e, h⟩ => ⟨b, e, Nat.le_trans (by simp) h⟩)⟩; clear ho1 hg1 hn1)
                all_goals
                  have ho1 := HO1.out
                  have hn1 := HN1.out
                  have hg0 := HG0.out
                  rw [← HE4.out] at hn1 hg0
                  have hfin : PV w (w4.setCell ⟨p, 2, none⟩ (.slice A5 (q + 1) d5)) p (rl W2 o3 (3 + 0)) (st.put 0 y) a2 (upd vt2 0 (.slice A5 (q + 1) d5)) vm2 := by
                    have := HP2.out.text (r := 0) (A := B) (c := c1) (l := y) (v1 := .slice A5 (q + 1) d5) (w1 := w4) (wc := W2) (vs := vs) (by decide) HHV.out.1 HHV.out.2.2 (.inl HRD.out) (Below.refl _ _) (by rw [← HMM.out]; show OwnAt w4 0 _ 1 _ ((st.tx 0).length + 1) _; rw [← HN.out]; exact ho1) hg0 hn1
                    have e : st.put 0 y = { st with e := upd st.e 0 s1, tx := upd st.tx 0 (st.tx 0 ++ [y]) } := by
                      unfold Ps.put
                      rw [if_pos (by rw [← HER.out]; exact HE0.out), HS1.out]
                    rw [e]
                    exact this
                  have HPN : Aside0 (PA w (w4.setCell ⟨p, 2, none⟩ (.slice A5 (q + 1) d5)) p (rl W2 o3 (3 + 0)) (st.put 0 y)) := ⟨⟨_, _, _, hfin⟩⟩
                  have HIN := Aside0.mk (HI.out.put (i := 0) (by decide) HYB.out)
                  have HLN : Aside0 (∀ i, i < 2 → ((st.put 0 y).tx i).length ≤ n + 1) := ⟨fun i hi => put_len (HLE.out i hi)⟩; have HMN : Aside0 (∀ i, i < 2 → ((st.put 0 y).mail i).length ≤ 16 * (n + 1)) := ⟨fun i hi => by have := HMLE.out i hi; show (st.mail i).length ≤ _; omega⟩
                  clear hfin ho1 hn1 hg0
                  go_wp2_with fail
                  refine (pfronts_calls w _ p _ _ HPN.out (fun i j hij => HIN.out.fronts hij) (fun i hi => by
                    have h1 := (HIN.out.fronts (i := i) (j := 1 - i) (by omega)).1
                    have h2 := HLN.out (1 - i) (by omega)
                    omega)).mono ?_
                  rintro e wf ⟨rfl, hbf⟩
                  have HPF := Aside0.mk (HPN.out.under hbf)
                  clear hbf
                  go_wp2_with fail
                  exact ⟨⟨n + 1, _, _, by omega, by omega, by go_num, HPF, HIN, HLN, HMN⟩, by simp [intOf]; omega⟩
              · have hee : (er == 0) = false := by simpa using he0
                have HE0 := Aside0.mk he0
                have HPN : Aside0 (PA w W2 p o3 (st.put 0 y)) := ⟨by
                  have e : st.put 0 y = { st with e := upd st.e 0 s1 } := by
                    unfold Ps.put
                    rw [if_neg (by rw [← HER.out]; exact HE0.out), HS1.out]
                  rw [e]
                  exact ⟨_, _, _, HP2.out⟩⟩
                have HIN := Aside0.mk (HI.out.put (i := 0) (by decide) HYB.out)
                have HLN : Aside0 (∀ i, i < 2 → ((st.put 0 y).tx i).length ≤ n + 1) := ⟨fun i hi => put_len (HLE.out i hi)⟩; have HMN : Aside0 (∀ i, i < 2 → ((st.put 0 y).mail i).length ≤ 16 * (n + 1)) := ⟨fun i hi => by have := HMLE.out i hi; show (st.mail i).length ≤ _; omega⟩
                clear he0
                go_wp2_with fail
                refine (pfronts_calls w _ p _ _ HPN.out (fun i j hij => HIN.out.fronts hij) (fun i hi => by
                  have h1 := (HIN.out.fronts (i := i) (j := 1 - i) (by omega)).1
                  have h2 := HLN.out (1 - i) (by omega)
                  omega)).mono ?_
                rintro e wf ⟨rfl, hbf⟩
                have HPF := Aside0.mk (HPN.out.under hbf)
                clear hbf
                go_wp2_with fail
                exact ⟨⟨n + 1, _, _, by omega, by omega, by go_num, HPF, HIN, HLN, HMN⟩, by simp [intOf]; omega⟩
          · have hnt' : decide (n < t.length) = false := decide_eq_false hnt
            clear hnt
            go_wp2_with fail
            go_quiet (fail)
            obtain ⟨wb, hwb⟩ : ∃ wb, wb = wz.drewN nq := ⟨_, rfl⟩
            have HPN : Aside0 (PA w wb p o2 st) := ⟨by rw [hwb]; exact HPR.out.under (pw_below_drewN (Below.refl _ _) _)⟩
            try rw [← hwb]
            clear hwb
            have HIN := HI
            have HMN : Aside0 (∀ i, i < 2 → (st.mail i).length ≤ 16 * (n + 1)) := ⟨fun i hi => by have := HMLE.out i hi; omega⟩
            have HLN : Aside0 (∀ i, i < 2 → (st.tx i).length ≤ n + 1) := ⟨fun i hi => Nat.le_succ_of_le (HLE.out i hi)⟩
            go_wp2_with fail
            refine (pfronts_calls w _ p _ _ HPN.out (fun i j hij => HIN.out.fronts hij) (fun i hi => by
              have h1 := (HIN.out.fronts (i := i) (j := 1 - i) (by omega)).1
              have h2 := HLN.out (1 - i) (by omega)
              omega)).mono ?_
            rintro e wf ⟨rfl, hbf⟩
            have HPF := Aside0.mk (HPN.out.under hbf)
            clear hbf
            go_wp2_with fail
            exact ⟨⟨n + 1, _, _, by omega, by omega, by go_num, HPF, HIN, HLN, HMN⟩, by simp [intOf]; omega⟩
        · have b0 : (kd == 0) = false := beq_eq_false_iff_ne.2 (by omega)
          have b1 : (kd == 1) = true := beq_iff_eq.2 hk
          clear hk
          go_wp2_with fail
          refine (psend_calls w _ p 0 1 o2 st HPR.out (by decide)).mono ?_
          rintro e wb ⟨rfl, ms, o3, hpn, _⟩
          have HPN := Aside0.mk hpn
          have HIN := Aside0.mk (HI.out.send (i := 0) (j := 1) (by decide) ms)
          have HLN : Aside0 (∀ i, i < 2 → ((st.send 0 1 ms).tx i).length ≤ n + 1) := ⟨fun i hi => Nat.le_succ_of_le (HLE.out i hi)⟩
          have HMN : Aside0 (∀ i, i < 2 → ((st.send 0 1 ms).mail i).length ≤ 16 * (n + 1)) := ⟨fun i hi => send_len (HI.out 1 0 (by decide)).1.ok (HMLE.out i hi)⟩
          clear hpn
          go_wp2_with fail
          refine (pfronts_calls w _ p _ _ HPN.out (fun i j hij => HIN.out.fronts hij) (fun i hi => by
            have h1 := (HIN.out.fronts (i := i) (j := 1 - i) (by omega)).1
            have h2 := HLN.out (1 - i) (by omega)
            omega)).mono ?_
          rintro e wf ⟨rfl, hbf⟩
          have HPF := Aside0.mk (HPN.out.under hbf)
          clear hbf
          go_wp2_with fail
          exact ⟨⟨n + 1, _, _, by omega, by omega, by go_num, HPF, HIN, HLN, HMN⟩, by simp [intOf]; omega⟩
        · have b0 : (kd == 0) = false := beq_eq_false_iff_ne.2 (by omega)
          have b1 : (kd == 1) = false := beq_eq_false_iff_ne.2 (by omega)
          have b2 : (kd == 2) = true := beq_iff_eq.2 hk
          clear hk
          obtain ⟨vs, hv1, hv2, hv3⟩ := HPV.out.mails 0 (by decide)
          obtain ⟨A4, d4, e4, hd4, hd5⟩ := (HPV.out.mails 0 (by decide)).form
          have HFL : Aside0 (FLab wz o2 (7 + 0) (.slice A4 (st.mail 0).length d4) (st.mail 0)) := ⟨by rw [← e4]; exact HPV.out.mails 0 (by decide)⟩
          obtain ⟨ml, hml⟩ : ∃ ml, ml = (st.mail 0).length := ⟨_, rfl⟩
          have HML := Aside0.mk hml
          rw [← hml] at e4 hd4 hv1
          have hx4 := (HPV.out.fields.2.2 0 (by decide)).1
          rw [e4] at hx4
          have hx4 : wz.cell? ⟨p, 6, none⟩ = some (.slice A4 ml d4) := hx4
          have hml63 : ml ≤ 9223372036854775807 := by simp only [maxLen] at hd5; omega
          clear hv1 hv2 hv3 e4 hd4 hd5 hml
          by_cases hkm : K < ml
          · have hkm' : (K : Int) < (ml : Int) := by omega
            obtain ⟨am, f, Au, du, rfl, hf, q0, q1, q2, q3, hq, hq9⟩ := HFL.out.get (j := K) (by rw [← HML.out]; exact hkm)
            have HFO := Aside0.mk ((HI.out 0 1 (by decide)).2 f (List.mem_of_getElem? hf))
            have HQ := Aside0.mk hq
            have HQ9 := Aside0.mk hq9
            have HON := Aside0.mk (HI.out.on (i := 0) (j := 1) (by decide) HFO.out)
            obtain ⟨u, hu⟩ : ∃ u, u = f.d.length := ⟨_, rfl⟩
            have HU := Aside0.mk hu
            rw [← hu] at q3
            have HCO : Aside0 (Calls Try.prog 25 #[.pointer (some ⟨p, 0, none⟩), .int .i64 0, .agg #[.int .u32 f.s, .int .i64 f.q, .int .i64 f.k, .slice Au u du]] wz (fun e W' => e = .returned (.bool true) ∧ ∃ o', PA w W' p o' (st.comes 0 f) ∧ Stays o2 wz W' o')) := ⟨by
              rw [hu]
              refine pcomes_calls w wz p 0 o2 st f Au du HPR.out (by decide) HFO.out.1 HFO.out.2.2.2.2.1 HQ.out HQ9.out HON.out.1 ?_
              have h1 := (HI.out.fronts (i := 0) (j := 1) (by decide)).1
              have h2 := HLE.out 1 (by decide)
              omega⟩
            clear hf hq hq9 hu
            go_wp2_with fail
            refine HCO.out.mono ?_
            rintro e wb ⟨rfl, o3, hpn, _⟩
            have HPN := Aside0.mk hpn
            have HIN := Aside0.mk HON.out.2.1
            have HLN : Aside0 (∀ i, i < 2 → ((st.comes 0 f).tx i).length ≤ n + 1) := ⟨fun i hi => by
              obtain ⟨_, _, _, h0, h1, _⟩ := HON.out
              have : (st.comes 0 f).tx i = st.tx i := by
                rcases (by omega : i = 0 ∨ i = 1) with rfl | rfl
                · exact h0
                · exact h1
              rw [this]
              exact Nat.le_succ_of_le (HLE.out i hi)⟩
            have HMN : Aside0 (∀ i, i < 2 → ((st.comes 0 f).mail i).length ≤ 16 * (n + 1)) := ⟨fun i hi => by have := HMLE.out i hi; show (st.mail i).length ≤ _; omega⟩
            clear hpn q0 q1 q2 q3 hx4
            go_wp2_with fail
            refine (pfronts_calls w _ p _ _ HPN.out (fun i j hij => HIN.out.fronts hij) (fun i hi => by
              have h1 := (HIN.out.fronts (i := i) (j := 1 - i) (by omega)).1
              have h2 := HLN.out (1 - i) (by omega)
              omega)).mono ?_
            rintro e wf ⟨rfl, hbf⟩
            have HPF := Aside0.mk (HPN.out.under hbf)
            clear hbf
            go_wp2_with fail
            exact ⟨⟨n + 1, _, _, by omega, by omega, by go_num, HPF, HIN, HLN, HMN⟩, by simp [intOf]; omega⟩
          · have hkm' : ¬ (K : Int) < (ml : Int) := by omega
            have hkm2 : decide (K < ml) = false := decide_eq_false hkm
            clear hkm
            have HPN := HPR
            have HIN := HI
            have HMN : Aside0 (∀ i, i < 2 → (st.mail i).length ≤ 16 * (n + 1)) := ⟨fun i hi => by have := HMLE.out i hi; omega⟩
            have HLN : Aside0 (∀ i, i < 2 → (st.tx i).length ≤ n + 1) := ⟨fun i hi => Nat.le_succ_of_le (HLE.out i hi)⟩
            go_wp2_with fail
            refine (pfronts_calls w _ p _ _ HPN.out (fun i j hij => HIN.out.fronts hij) (fun i hi => by
              have h1 := (HIN.out.fronts (i := i) (j := 1 - i) (by omega)).1
              have h2 := HLN.out (1 - i) (by omega)
              omega)).mono ?_
            rintro e wf ⟨rfl, hbf⟩
            have HPF := Aside0.mk (HPN.out.under hbf)
            clear hbf
            go_wp2_with fail
            exact ⟨⟨n + 1, _, _, by omega, by omega, by go_num, HPF, HIN, HLN, HMN⟩, by simp [intOf]; omega⟩
        · have b0 : (kd == 0) = false := beq_eq_false_iff_ne.2 (by omega)
          have b1 : (kd == 1) = false := beq_eq_false_iff_ne.2 (by omega)
          have b2 : (kd == 2) = false := beq_eq_false_iff_ne.2 (by omega)
          have b3 : (kd == 3) = true := beq_iff_eq.2 hk
          clear hk
          obtain ⟨vs, hv1, hv2, hv3⟩ := HPV.out.mails 0 (by decide)
          obtain ⟨A4, d4, e4, hd4, hd5⟩ := (HPV.out.mails 0 (by decide)).form
          have HFL : Aside0 (FLab wz o2 (7 + 0) (.slice A4 (st.mail 0).length d4) (st.mail 0)) := ⟨by rw [← e4]; exact HPV.out.mails 0 (by decide)⟩
          obtain ⟨ml, hml⟩ : ∃ ml, ml = (st.mail 0).length := ⟨_, rfl⟩
          have HML := Aside0.mk hml
          rw [← hml] at e4 hd4 hv1
          have hx4 := (HPV.out.fields.2.2 0 (by decide)).1
          rw [e4] at hx4
          have hx4 : wz.cell? ⟨p, 6, none⟩ = some (.slice A4 ml d4) := hx4
          have hml63 : ml ≤ 9223372036854775807 := by simp only [maxLen] at hd5; omega
          by_cases hkm : K < ml
          · have hkm' : (K : Int) < (ml : Int) := by omega
            have HV1 := Aside0.mk hv1
            have HV2 := Aside0.mk hv2
            have HV3 := Aside0.mk hv3
            have HE4 := Aside0.mk e4
            obtain ⟨K1, hK1⟩ : ∃ K1, K1 = K + 1 := ⟨_, rfl⟩
            have HK1 := Aside0.mk hK1
            have g1 : (K : Int) + 1 = (K1 : Int) := by omega
            have g2 : IntKind.i64.wrap ((K : Int) + 1) = (K1 : Int) := by rw [IntWalk.i64_in _ (by omega)]; omega
            have g3 : IntKind.i64.wrap (K1 : Int) = (K1 : Int) := IntWalk.i64_in _ (by omega)
            have g4 : K1 ≤ ml := by omega
            have g5 : (K1 : Int) ≤ (ml : Int) := by omega
            have g6 : ml ≤ d4 := hd4
            have g7 : (K : Int) ≤ (d4 : Int) := by omega
            have g8 : (K1 : Int) ≤ (d4 : Int) := by omega
            have g9 : d4 ≤ 9223372036854775807 := by simp only [maxLen] at hd5; omega
            have HLEM : Aside0 (ml ≤ 1000000 ∨ True) := ⟨.inr trivial⟩
            have HVW : Aside0 (∀ W3, Below wz.heap.size wz W3 → OwnAt W3 0 42 4 (.slice A4 ml d4) ml vs) := ⟨fun W3 hW => by
              have := HV1.out.move (fun k e => hW.block k (HV1.out.block e).2)
              rw [HE4.out] at this
              exact this⟩
            have HPB : Aside0 (∀ w4, wz.grownBy w4 (Value.slice A4 ml d4).ownBlock → w4.cell? ⟨p, 6, none⟩ = some (.slice A4 ml d4) ∧ w4.frozen? ⟨p, 6, none⟩ = false) := ⟨fun w4 hg => by
              have hpb : w4.heap[p]? = wz.heap[p]? := hg.block p (Array.getElem?_eq_some_iff.1 HPV.out.cells).1 (fun e => by
                have h1 := HPV.out.op
                rw [← HE4.out] at e
                have := HV2.out p e.symm
                omega)
              have h1 := HPV.out.fields.2.2 0 (by decide)
              rw [HE4.out] at h1
              have hcell : ∀ j, w4.cell? ⟨p, j, none⟩ = wz.cell? ⟨p, j, none⟩ := fun j => by unfold World.cell?; rw [hpb]
              have hfr : ∀ j, w4.frozen? ⟨p, j, none⟩ = wz.frozen? ⟨p, j, none⟩ := fun j => by unfold World.frozen?; rw [hpb]
              exact ⟨(hcell _).trans h1.1, (hfr _).trans h1.2⟩⟩
            have HON1 : Aside0 (∀ u ∈ vs, u.oneCell' = true) := ⟨frames_one (ls := st.mail 0) (P := fun u l => QB wz 0 u l ∧ ∀ k, u.ownBlock = some k → o2 k = 9) (by rw [← hml]; exact hv1.1) (fun u l h => by obtain ⟨_, _, rfl, _⟩ := h.1.form; rfl) hv3⟩
            have HKM := Aside0.mk hkm
            have HMB : Aside0 (ml ≤ 1000000) := ⟨by have := HMLE.out 0 (by decide); rw [← hml] at this; omega⟩
            have y1 := HPB.out wz.drew (grown_of_below (below_drew (Below.refl _ _)) _)
            clear hv1 hv2 hv3 e4 hd4 hd5 hml hkm hK1
            go_wp2_with fail
            go_region_law (refine step_cut rfl (.tmp 125) (.tmp 134) rfl A4 _ ml d4 K vs (HVW.out _ (by first | exact Below.refl _ _ | exact below_drew (Below.refl _ _))) HON1.out HKM.out HMB.out (by first | rfl | skip) (by first | rfl | (rw [← HK1.out]; rfl)) (fun h => by first | rfl | (rw [if_neg (by omega)]; rw [HK1.out])) ?_; intro v1 w4 ho1 hg1 hn1; obtain ⟨A5, d5, rfl, _⟩ := own_form ho1; have HG0 : Aside0 (wz.grownBy w4 (Value.slice A4 ml d4).ownBlock) := ⟨by first | exact hg1 | exact grown_below (below_drew (Below.refl _ _)) hg1⟩; obtain ⟨e0, f0⟩ := HPB.out _ HG0.out; have HO1 := Aside0.mk ho1; have HN1 : Aside0 ((Value.slice A5 (ml - 1) d5).ownBlock = (Value.slice A4 ml d4).ownBlock ∨ ∃ b, (Value.slice A5 (ml - 1) d5).ownBlock = some b ∧ wz.heap.size ≤ b) := ⟨hn1⟩; clear ho1 hg1 hn1)
            all_goals
              have ho1 := HO1.out
              have hn1 := HN1.out
              have hg0 := HG0.out
              rw [← HE4.out] at hn1 hg0
              have hfin : PV w (w4.setCell ⟨p, 6, none⟩ (.slice A5 (ml - 1) d5)) p (rl wz o2 (7 + 0)) (st.lose 0 K) a2 vt2 (upd vm2 0 (.slice A5 (ml - 1) d5)) := by
                have hlk : ((st.mail 0).take K ++ (st.mail 0).drop (K + 1)).length = ml - 1 := by
                  have := HKM.out
                  rw [List.length_append, List.length_take, List.length_drop, ← HML.out]
                  omega
                refine HPV.out.frames (i := 0) (ls := (st.mail 0).take K ++ (st.mail 0).drop (K + 1)) (vs := vs.take (K * 4) ++ vs.drop ((K + 1) * 4)) (by decide) (Below.refl _ _) (by rw [hlk]; exact ho1) hg0 hn1 ?_
                exact flab_cut (by rw [← HML.out]; exact HV1.out.1) (by rw [← HML.out]; exact HKM.out) HV3.out
              have HPN : Aside0 (PA w (w4.setCell ⟨p, 6, none⟩ (.slice A5 (ml - 1) d5)) p (rl wz o2 (7 + 0)) (st.lose 0 K)) := ⟨⟨_, _, _, hfin⟩⟩
              have HIN := Aside0.mk (HI.out.lose 0 K)
              have HLN : Aside0 (∀ i, i < 2 → ((st.lose 0 K).tx i).length ≤ n + 1) := ⟨fun i hi => Nat.le_succ_of_le (HLE.out i hi)⟩
              have HMN : Aside0 (∀ i, i < 2 → ((st.lose 0 K).mail i).length ≤ 16 * (n + 1)) := ⟨fun i hi => lose_len (HMLE.out i hi)⟩
              clear hfin ho1 hn1 hg0 g1 g2 g3 g4 g5 g6 g7 g8 g9 y1 hx4
              go_wp2_with fail
              all_goals
                refine (pfronts_calls w _ p _ _ HPN.out (fun i j hij => HIN.out.fronts hij) (fun i hi => by
                  have h1 := (HIN.out.fronts (i := i) (j := 1 - i) (by omega)).1
                  have h2 := HLN.out (1 - i) (by omega)
                  omega)).mono ?_
                rintro e wf ⟨rfl, hbf⟩
                have HPF := Aside0.mk (HPN.out.under hbf)
                clear hbf
                go_wp2_with fail
                exact ⟨⟨n + 1, _, _, by omega, by omega, by go_num, HPF, HIN, HLN, HMN⟩, by simp [intOf]; omega⟩
          · have hkm' : ¬ (K : Int) < (ml : Int) := by omega
            clear hv1 hv2 hv3 e4 hd4 hd5 hml hkm
            have HPN := HPR
            have HIN := HI
            have HMN : Aside0 (∀ i, i < 2 → (st.mail i).length ≤ 16 * (n + 1)) := ⟨fun i hi => by have := HMLE.out i hi; omega⟩
            have HLN : Aside0 (∀ i, i < 2 → (st.tx i).length ≤ n + 1) := ⟨fun i hi => Nat.le_succ_of_le (HLE.out i hi)⟩
            go_wp2_with fail
            refine (pfronts_calls w _ p _ _ HPN.out (fun i j hij => HIN.out.fronts hij) (fun i hi => by
              have h1 := (HIN.out.fronts (i := i) (j := 1 - i) (by omega)).1
              have h2 := HLN.out (1 - i) (by omega)
              omega)).mono ?_
            rintro e wf ⟨rfl, hbf⟩
            have HPF := Aside0.mk (HPN.out.under hbf)
            clear hbf
            go_wp2_with fail
            exact ⟨⟨n + 1, _, _, by omega, by omega, by go_num, HPF, HIN, HLN, HMN⟩, by simp [intOf]; omega⟩
        · have b0 : (kd == 0) = false := beq_eq_false_iff_ne.2 n0
          have b1 : (kd == 1) = false := beq_eq_false_iff_ne.2 n1
          have b2 : (kd == 2) = false := beq_eq_false_iff_ne.2 n2
          have b3 : (kd == 3) = false := beq_eq_false_iff_ne.2 n3
          clear n0 n1 n2 n3
          have HPN := HPR
          have HIN := HI
          have HMN : Aside0 (∀ i, i < 2 → (st.mail i).length ≤ 16 * (n + 1)) := ⟨fun i hi => by have := HMLE.out i hi; omega⟩
          have HLN : Aside0 (∀ i, i < 2 → (st.tx i).length ≤ n + 1) := ⟨fun i hi => Nat.le_succ_of_le (HLE.out i hi)⟩
          go_wp2_with fail
          refine (pfronts_calls w _ p _ _ HPN.out (fun i j hij => HIN.out.fronts hij) (fun i hi => by
            have h1 := (HIN.out.fronts (i := i) (j := 1 - i) (by omega)).1
            have h2 := HLN.out (1 - i) (by omega)
            omega)).mono ?_
          rintro e wf ⟨rfl, hbf⟩
          have HPF := Aside0.mk (HPN.out.under hbf)
          clear hbf
          go_wp2_with fail
          exact ⟨⟨n + 1, _, _, by omega, by omega, by go_num, HPF, HIN, HLN, HMN⟩, by simp [intOf]; omega⟩
      · rcases hk with hk | hk | hk | hk | ⟨n0, n1, n2, n3⟩
        · have b0 : (kd == 0) = true := beq_iff_eq.2 hk
          clear hk
          by_cases hnt : n < t.length
          · have hnt' : (n : Int) < (t.length : Int) := by omega
            obtain ⟨at_, B, c1, rfl, z0, _, hrd⟩ := text_at HTX.out hnt
            have HM : Aside0 (t.getD n [] ∈ t) := ⟨by rw [List.getD_eq_getElem?_getD, List.getElem?_eq_getElem hnt]; exact List.getElem_mem hnt⟩
            have HYB := Aside0.mk (HBY.out _ HM.out)
            obtain ⟨y, hy⟩ : ∃ y, y = t.getD n [] := ⟨_, rfl⟩
            rw [← hy] at z0 hrd HYB
            have HRD := Aside0.mk hrd
            obtain ⟨m, hm⟩ : ∃ m, m = y.length := ⟨_, rfl⟩
            have HMM := Aside0.mk hm
            rw [← hm] at z0
            have hm63 : m ≤ 9223372036854775807 := by rw [hm]; exact hrd.2.1
            obtain ⟨er, her⟩ : ∃ er, er = ((st.e 1).put y).2 := ⟨_, rfl⟩
            have HER := Aside0.mk her
            obtain ⟨s1, hs1⟩ : ∃ s1, s1 = ((st.e 1).put y).1 := ⟨_, rfl⟩
            have HS1 := Aside0.mk hs1
            have HPU : Aside0 (∀ W1, Below wz.heap.size wz W1 → Calls Try.prog 12 #[.pointer (some ⟨a2 1, 0, none⟩), .slice B m c1] W1 (fun e W2 => ∃ o3, e = .returned (.int .i64 er) ∧ PV w W2 p o3 { st with e := upd st.e 1 s1 } a2 vt2 vm2 ∧ W2.cell? ⟨p, 1, none⟩ = some (.pointer (some ⟨a2 1, 0, none⟩)) ∧ W2.cell? (at_.add n) = some (.slice B m c1))) := ⟨fun W1 hW1 => by
              have hp1 := HPV.out.under hW1
              have hC := Kd.C_below HRD.out hp1.below
              rw [HMM.out]
              refine (eput_calls W1 (a2 1) (st.e 1) (fun k => o2 k = 1) B c1 y (hp1.ends 1 (by decide)) hC HYB.out).mono ?_
              rintro e W2 ⟨rfl, he, hk⟩
              have hP2 : PV w W2 p (rl W1 o2 1) { st with e := upd st.e 1 s1 } a2 vt2 vm2 := by
                rw [hs1]
                refine hp1.end_call (by decide) hk (fun k hk => rl_old hk) (rl_base hp1.base hp1.below.size) (he.mono (fun k e hl => ?_))
                rcases e with e | e
                · by_cases hkl : k < W1.heap.size
                  · show rl W1 o2 1 k = 1
                    rw [rl_old hkl]; exact e
                  · exact rl_new (by omega)
                · exact rl_new e
              refine ⟨_, by rw [her], hP2, hP2.fields.1 1 (by decide), ?_⟩
              rw [← HMM.out]
              exact (hP2.below.cell (World.block_lt_of_cell? _ _ z0)).trans z0⟩
            have hx3 := HPV.out.fields.1 1 (by decide)
            have HS : Aside0 (∀ W1, Below wz.heap.size wz W1 → W1.cell? ⟨p, 1, none⟩ = some (.pointer (some ⟨a2 1, 0, none⟩)) ∧ W1.cell? (at_.add n) = some (.slice B m c1)) := ⟨fun W1 hW1 => ⟨(hW1.cell (World.block_lt_of_cell? _ _ hx3)).trans hx3, ((HPV.out.under hW1).below.cell (World.block_lt_of_cell? _ _ z0)).trans z0⟩⟩
            have HBD0 : Aside0 (Below wz.heap.size wz wz) := ⟨Below.refl _ _⟩
            have HBD1 : Aside0 (Below wz.heap.size wz wz.drew) := ⟨below_drew (Below.refl _ _)⟩
            have HZ0 := Aside0.mk z0
            clear hy hrd hm her hs1 z0 hx3
            obtain ⟨hx3, z0⟩ := HS.out _ HBD0.out
            go_wp2_with fail
            go_region_held_law (fun W1 => W1.cell? ⟨p, 1, none⟩ = some (.pointer (some ⟨a2 1, 0, none⟩)) ∧ W1.cell? (at_.add n) = some (.slice B m c1)) (first | exact HS.out _ (Aside0.out (by assumption)) | exact Aside0.out (by assumption))
              ((go_at_call 12; refine (HPU.out _ (Aside0.out (by assumption))).mono ?_; rintro e W2 ⟨o3, rfl, hp2, hc2⟩; have HP2 := Aside0.mk hp2; have HC2 : Aside0 (W2.cell? ⟨p, 1, none⟩ = some (.pointer (some ⟨a2 1, 0, none⟩)) ∧ W2.cell? (at_.add n) = some (.slice B m c1)) := ⟨hc2⟩; clear hp2 hc2))
            all_goals
              clear hx3 z0
              by_cases he0 : er = 0
              · have hee : (er == 0) = true := by simp [he0]
                have HE0 := Aside0.mk he0
                have hz2 := HC2.out.2
                obtain ⟨vs, hv1, hv2, hv3⟩ := HP2.out.texts 1 (by decide)
                obtain ⟨A4, d4, e4, hd4, hd5⟩ := hv1.form
                have hx4 := (HP2.out.fields.2.1 1 (by decide)).1
                rw [e4] at hx4
                obtain ⟨q, hq⟩ : ∃ q, q = (st.tx 1).length := ⟨_, rfl⟩
                have HN := Aside0.mk hq
                have HLEN : Aside0 (q ≤ 1000000) := ⟨by rw [hq]; have := HLE.out 1 (by decide); omega⟩
                have hx4 : W2.cell? ⟨p, 3, none⟩ = some (.slice A4 q d4) := by rw [hq]; exact hx4
                have HV2 : Aside0 (∀ W3, Below W2.heap.size W2 W3 → OwnAt W3 0 38 1 (.slice A4 q d4) q vs) := ⟨fun W3 hW => by
                  have := hv1.move (fun k e => hW.block k (hv1.block e).2)
                  rw [e4] at this
                  rw [hq]
                  exact this⟩
                have HHV := Aside0.mk (And.intro hv1 (And.intro hv2 hv3))
                have HE4 : Aside0 (vt2 1 = .slice A4 q d4) := ⟨by rw [hq]; exact e4⟩
                have HPB : Aside0 (∀ w4, W2.grownBy w4 (Value.slice A4 q d4).ownBlock → w4.cell? ⟨p, 3, none⟩ = some (.slice A4 q d4) ∧ w4.frozen? ⟨p, 3, none⟩ = false) := ⟨fun w4 hg => by
                  have hpb : w4.heap[p]? = W2.heap[p]? := hg.block p (Array.getElem?_eq_some_iff.1 HP2.out.cells).1 (fun e => by
                    have h1 := HP2.out.op
                    rw [← HE4.out] at e
                    have := HHV.out.2.1 p e.symm
                    omega)
                  have h1 := HP2.out.fields.2.1 1 (by decide)
                  rw [HE4.out] at h1
                  have hcell : ∀ j, w4.cell? ⟨p, j, none⟩ = W2.cell? ⟨p, j, none⟩ := fun j => by unfold World.cell?; rw [hpb]
                  have hfr : ∀ j, w4.frozen? ⟨p, j, none⟩ = W2.frozen? ⟨p, j, none⟩ := fun j => by unfold World.frozen?; rw [hpb]
                  exact ⟨(hcell _).trans h1.1, (hfr _).trans h1.2⟩⟩
                obtain ⟨BX, hBX⟩ : ∃ BX, BX = Obj.cells #[.slice B m c1] 38 := ⟨_, rfl⟩
                have hkeep : ∀ {ad : Addr} {v : Value}, W2.cell? ad = some v → (W2.drew.cell? ad = some v ∧ (W2.alloc BX).cell? ad = some v ∧ (W2.drew.alloc BX).cell? ad = some v ∧ (W2.alloc BX).drew.cell? ad = some v) := fun {ad v} h =>
                  have hl := World.block_lt_of_cell? _ _ h
                  ⟨((below_drew (Below.refl _ _)).cell hl).trans h, ((below_alloc (Below.refl _ _) _).cell hl).trans h, ((below_alloc (below_drew (Below.refl _ _)) _).cell hl).trans h, ((below_drew (below_alloc (Below.refl _ _) _)).cell hl).trans h⟩
                obtain ⟨y1, y2, y3, y4⟩ := hkeep hx4
                obtain ⟨x1, x2, x3, x4⟩ := hkeep hz2
                rw [hBX] at y2 y3 y4 x2 x3 x4
                clear hv1 hv2 hv3 e4 hd4 hd5 hq hBX hkeep he0
                go_wp2_with fail
                go_region_law (refine step_row rfl (.tmp 63) (.tmp 68) rfl (.slice A4 q d4) vs q (.slice B m c1) W2.heap.size rfl rfl (HV2.out _ (by first | exact below_alloc (Below.refl _ _) _ | exact below_drew (below_alloc (Below.refl _ _) _) | exact below_alloc (below_drew (Below.refl _ _)) _)) (by first | exact heap_alloc_new W2 _ | exact heap_alloc_new W2.drew _) rfl HLEN.out ?_; intro v1 w4 ho1 hg1 hn1; obtain ⟨A5, d5, rfl, _⟩ := ho1.form; have HG0 : Aside0 (W2.grownBy w4 (Value.slice A4 q d4).ownBlock) := ⟨by first | exact grown_below (below_alloc (Below.refl _ _) _) hg1 | exact grown_below (below_drew (below_alloc (Below.refl _ _) _)) hg1 | exact grown_below (below_alloc (below_drew (Below.refl _ _)) _) hg1⟩; obtain ⟨e0, g0⟩ := HPB.out _ HG0.out; have HO1 := Aside0.mk ho1; have HN1 : Aside0 ((Value.slice A5 (q + 1) d5).ownBlock = (Value.slice A4 q d4).ownBlock ∨ ∃ b, (Value.slice A5 (q + 1) d5).ownBlock = some b ∧ W2.heap.size ≤ b) := ⟨hn1.imp id (fun ⟨b, e, h⟩ => ⟨b, e, Nat.le_trans (by simp) h⟩)⟩; clear ho1 hg1 hn1)
                all_goals
                  have ho1 := HO1.out
                  have hn1 := HN1.out
                  have hg0 := HG0.out
                  rw [← HE4.out] at hn1 hg0
                  have hfin : PV w (w4.setCell ⟨p, 3, none⟩ (.slice A5 (q + 1) d5)) p (rl W2 o3 (3 + 1)) (st.put 1 y) a2 (upd vt2 1 (.slice A5 (q + 1) d5)) vm2 := by
                    have := HP2.out.text (r := 1) (A := B) (c := c1) (l := y) (v1 := .slice A5 (q + 1) d5) (w1 := w4) (wc := W2) (vs := vs) (by decide) HHV.out.1 HHV.out.2.2 (.inl HRD.out) (Below.refl _ _) (by rw [← HMM.out]; show OwnAt w4 0 _ 1 _ ((st.tx 1).length + 1) _; rw [← HN.out]; exact ho1) hg0 hn1
                    have e : st.put 1 y = { st with e := upd st.e 1 s1, tx := upd st.tx 1 (st.tx 1 ++ [y]) } := by
                      unfold Ps.put
                      rw [if_pos (by rw [← HER.out]; exact HE0.out), HS1.out]
                    rw [e]
                    exact this
                  have HPN : Aside0 (PA w (w4.setCell ⟨p, 3, none⟩ (.slice A5 (q + 1) d5)) p (rl W2 o3 (3 + 1)) (st.put 1 y)) := ⟨⟨_, _, _, hfin⟩⟩
                  have HIN := Aside0.mk (HI.out.put (i := 1) (by decide) HYB.out)
                  have HLN : Aside0 (∀ i, i < 2 → ((st.put 1 y).tx i).length ≤ n + 1) := ⟨fun i hi => put_len (HLE.out i hi)⟩; have HMN : Aside0 (∀ i, i < 2 → ((st.put 1 y).mail i).length ≤ 16 * (n + 1)) := ⟨fun i hi => by have := HMLE.out i hi; show (st.mail i).length ≤ _; omega⟩
                  clear hfin ho1 hn1 hg0
                  go_wp2_with fail
                  refine (pfronts_calls w _ p _ _ HPN.out (fun i j hij => HIN.out.fronts hij) (fun i hi => by
                    have h1 := (HIN.out.fronts (i := i) (j := 1 - i) (by omega)).1
                    have h2 := HLN.out (1 - i) (by omega)
                    omega)).mono ?_
                  rintro e wf ⟨rfl, hbf⟩
                  have HPF := Aside0.mk (HPN.out.under hbf)
                  clear hbf
                  go_wp2_with fail
                  exact ⟨⟨n + 1, _, _, by omega, by omega, by go_num, HPF, HIN, HLN, HMN⟩, by simp [intOf]; omega⟩
              · have hee : (er == 0) = false := by simpa using he0
                have HE0 := Aside0.mk he0
                have HPN : Aside0 (PA w W2 p o3 (st.put 1 y)) := ⟨by
                  have e : st.put 1 y = { st with e := upd st.e 1 s1 } := by
                    unfold Ps.put
                    rw [if_neg (by rw [← HER.out]; exact HE0.out), HS1.out]
                  rw [e]
                  exact ⟨_, _, _, HP2.out⟩⟩
                have HIN := Aside0.mk (HI.out.put (i := 1) (by decide) HYB.out)
                have HLN : Aside0 (∀ i, i < 2 → ((st.put 1 y).tx i).length ≤ n + 1) := ⟨fun i hi => put_len (HLE.out i hi)⟩; have HMN : Aside0 (∀ i, i < 2 → ((st.put 1 y).mail i).length ≤ 16 * (n + 1)) := ⟨fun i hi => by have := HMLE.out i hi; show (st.mail i).length ≤ _; omega⟩
                clear he0
                go_wp2_with fail
                refine (pfronts_calls w _ p _ _ HPN.out (fun i j hij => HIN.out.fronts hij) (fun i hi => by
                  have h1 := (HIN.out.fronts (i := i) (j := 1 - i) (by omega)).1
                  have h2 := HLN.out (1 - i) (by omega)
                  omega)).mono ?_
                rintro e wf ⟨rfl, hbf⟩
                have HPF := Aside0.mk (HPN.out.under hbf)
                clear hbf
                go_wp2_with fail
                exact ⟨⟨n + 1, _, _, by omega, by omega, by go_num, HPF, HIN, HLN, HMN⟩, by simp [intOf]; omega⟩
          · have hnt' : decide (n < t.length) = false := decide_eq_false hnt
            clear hnt
            go_wp2_with fail
            go_quiet (fail)
            obtain ⟨wb, hwb⟩ : ∃ wb, wb = wz.drewN nq := ⟨_, rfl⟩
            have HPN : Aside0 (PA w wb p o2 st) := ⟨by rw [hwb]; exact HPR.out.under (pw_below_drewN (Below.refl _ _) _)⟩
            try rw [← hwb]
            clear hwb
            have HIN := HI
            have HMN : Aside0 (∀ i, i < 2 → (st.mail i).length ≤ 16 * (n + 1)) := ⟨fun i hi => by have := HMLE.out i hi; omega⟩
            have HLN : Aside0 (∀ i, i < 2 → (st.tx i).length ≤ n + 1) := ⟨fun i hi => Nat.le_succ_of_le (HLE.out i hi)⟩
            go_wp2_with fail
            refine (pfronts_calls w _ p _ _ HPN.out (fun i j hij => HIN.out.fronts hij) (fun i hi => by
              have h1 := (HIN.out.fronts (i := i) (j := 1 - i) (by omega)).1
              have h2 := HLN.out (1 - i) (by omega)
              omega)).mono ?_
            rintro e wf ⟨rfl, hbf⟩
            have HPF := Aside0.mk (HPN.out.under hbf)
            clear hbf
            go_wp2_with fail
            exact ⟨⟨n + 1, _, _, by omega, by omega, by go_num, HPF, HIN, HLN, HMN⟩, by simp [intOf]; omega⟩
        · have b0 : (kd == 0) = false := beq_eq_false_iff_ne.2 (by omega)
          have b1 : (kd == 1) = true := beq_iff_eq.2 hk
          clear hk
          go_wp2_with fail
          refine (psend_calls w _ p 1 0 o2 st HPR.out (by decide)).mono ?_
          rintro e wb ⟨rfl, ms, o3, hpn, _⟩
          have HPN := Aside0.mk hpn
          have HIN := Aside0.mk (HI.out.send (i := 1) (j := 0) (by decide) ms)
          have HLN : Aside0 (∀ i, i < 2 → ((st.send 1 0 ms).tx i).length ≤ n + 1) := ⟨fun i hi => Nat.le_succ_of_le (HLE.out i hi)⟩
          have HMN : Aside0 (∀ i, i < 2 → ((st.send 1 0 ms).mail i).length ≤ 16 * (n + 1)) := ⟨fun i hi => send_len (HI.out 0 1 (by decide)).1.ok (HMLE.out i hi)⟩
          clear hpn
          go_wp2_with fail
          refine (pfronts_calls w _ p _ _ HPN.out (fun i j hij => HIN.out.fronts hij) (fun i hi => by
            have h1 := (HIN.out.fronts (i := i) (j := 1 - i) (by omega)).1
            have h2 := HLN.out (1 - i) (by omega)
            omega)).mono ?_
          rintro e wf ⟨rfl, hbf⟩
          have HPF := Aside0.mk (HPN.out.under hbf)
          clear hbf
          go_wp2_with fail
          exact ⟨⟨n + 1, _, _, by omega, by omega, by go_num, HPF, HIN, HLN, HMN⟩, by simp [intOf]; omega⟩
        · have b0 : (kd == 0) = false := beq_eq_false_iff_ne.2 (by omega)
          have b1 : (kd == 1) = false := beq_eq_false_iff_ne.2 (by omega)
          have b2 : (kd == 2) = true := beq_iff_eq.2 hk
          clear hk
          obtain ⟨vs, hv1, hv2, hv3⟩ := HPV.out.mails 1 (by decide)
          obtain ⟨A4, d4, e4, hd4, hd5⟩ := (HPV.out.mails 1 (by decide)).form
          have HFL : Aside0 (FLab wz o2 (7 + 1) (.slice A4 (st.mail 1).length d4) (st.mail 1)) := ⟨by rw [← e4]; exact HPV.out.mails 1 (by decide)⟩
          obtain ⟨ml, hml⟩ : ∃ ml, ml = (st.mail 1).length := ⟨_, rfl⟩
          have HML := Aside0.mk hml
          rw [← hml] at e4 hd4 hv1
          have hx4 := (HPV.out.fields.2.2 1 (by decide)).1
          rw [e4] at hx4
          have hx4 : wz.cell? ⟨p, 7, none⟩ = some (.slice A4 ml d4) := hx4
          have hml63 : ml ≤ 9223372036854775807 := by simp only [maxLen] at hd5; omega
          clear hv1 hv2 hv3 e4 hd4 hd5 hml
          by_cases hkm : K < ml
          · have hkm' : (K : Int) < (ml : Int) := by omega
            obtain ⟨am, f, Au, du, rfl, hf, q0, q1, q2, q3, hq, hq9⟩ := HFL.out.get (j := K) (by rw [← HML.out]; exact hkm)
            have HFO := Aside0.mk ((HI.out 1 0 (by decide)).2 f (List.mem_of_getElem? hf))
            have HQ := Aside0.mk hq
            have HQ9 := Aside0.mk hq9
            have HON := Aside0.mk (HI.out.on (i := 1) (j := 0) (by decide) HFO.out)
            obtain ⟨u, hu⟩ : ∃ u, u = f.d.length := ⟨_, rfl⟩
            have HU := Aside0.mk hu
            rw [← hu] at q3
            have HCO : Aside0 (Calls Try.prog 25 #[.pointer (some ⟨p, 0, none⟩), .int .i64 1, .agg #[.int .u32 f.s, .int .i64 f.q, .int .i64 f.k, .slice Au u du]] wz (fun e W' => e = .returned (.bool true) ∧ ∃ o', PA w W' p o' (st.comes 1 f) ∧ Stays o2 wz W' o')) := ⟨by
              rw [hu]
              refine pcomes_calls w wz p 1 o2 st f Au du HPR.out (by decide) HFO.out.1 HFO.out.2.2.2.2.1 HQ.out HQ9.out HON.out.1 ?_
              have h1 := (HI.out.fronts (i := 1) (j := 0) (by decide)).1
              have h2 := HLE.out 0 (by decide)
              omega⟩
            clear hf hq hq9 hu
            go_wp2_with fail
            refine HCO.out.mono ?_
            rintro e wb ⟨rfl, o3, hpn, _⟩
            have HPN := Aside0.mk hpn
            have HIN := Aside0.mk HON.out.2.1
            have HLN : Aside0 (∀ i, i < 2 → ((st.comes 1 f).tx i).length ≤ n + 1) := ⟨fun i hi => by
              obtain ⟨_, _, _, h0, h1, _⟩ := HON.out
              have : (st.comes 1 f).tx i = st.tx i := by
                rcases (by omega : i = 0 ∨ i = 1) with rfl | rfl
                · exact h0
                · exact h1
              rw [this]
              exact Nat.le_succ_of_le (HLE.out i hi)⟩
            have HMN : Aside0 (∀ i, i < 2 → ((st.comes 1 f).mail i).length ≤ 16 * (n + 1)) := ⟨fun i hi => by have := HMLE.out i hi; show (st.mail i).length ≤ _; omega⟩
            clear hpn q0 q1 q2 q3 hx4
            go_wp2_with fail
            refine (pfronts_calls w _ p _ _ HPN.out (fun i j hij => HIN.out.fronts hij) (fun i hi => by
              have h1 := (HIN.out.fronts (i := i) (j := 1 - i) (by omega)).1
              have h2 := HLN.out (1 - i) (by omega)
              omega)).mono ?_
            rintro e wf ⟨rfl, hbf⟩
            have HPF := Aside0.mk (HPN.out.under hbf)
            clear hbf
            go_wp2_with fail
            exact ⟨⟨n + 1, _, _, by omega, by omega, by go_num, HPF, HIN, HLN, HMN⟩, by simp [intOf]; omega⟩
          · have hkm' : ¬ (K : Int) < (ml : Int) := by omega
            have hkm2 : decide (K < ml) = false := decide_eq_false hkm
            clear hkm
            have HPN := HPR
            have HIN := HI
            have HMN : Aside0 (∀ i, i < 2 → (st.mail i).length ≤ 16 * (n + 1)) := ⟨fun i hi => by have := HMLE.out i hi; omega⟩
            have HLN : Aside0 (∀ i, i < 2 → (st.tx i).length ≤ n + 1) := ⟨fun i hi => Nat.le_succ_of_le (HLE.out i hi)⟩
            go_wp2_with fail
            refine (pfronts_calls w _ p _ _ HPN.out (fun i j hij => HIN.out.fronts hij) (fun i hi => by
              have h1 := (HIN.out.fronts (i := i) (j := 1 - i) (by omega)).1
              have h2 := HLN.out (1 - i) (by omega)
              omega)).mono ?_
            rintro e wf ⟨rfl, hbf⟩
            have HPF := Aside0.mk (HPN.out.under hbf)
            clear hbf
            go_wp2_with fail
            exact ⟨⟨n + 1, _, _, by omega, by omega, by go_num, HPF, HIN, HLN, HMN⟩, by simp [intOf]; omega⟩
        · have b0 : (kd == 0) = false := beq_eq_false_iff_ne.2 (by omega)
          have b1 : (kd == 1) = false := beq_eq_false_iff_ne.2 (by omega)
          have b2 : (kd == 2) = false := beq_eq_false_iff_ne.2 (by omega)
          have b3 : (kd == 3) = true := beq_iff_eq.2 hk
          clear hk
          obtain ⟨vs, hv1, hv2, hv3⟩ := HPV.out.mails 1 (by decide)
          obtain ⟨A4, d4, e4, hd4, hd5⟩ := (HPV.out.mails 1 (by decide)).form
          have HFL : Aside0 (FLab wz o2 (7 + 1) (.slice A4 (st.mail 1).length d4) (st.mail 1)) := ⟨by rw [← e4]; exact HPV.out.mails 1 (by decide)⟩
          obtain ⟨ml, hml⟩ : ∃ ml, ml = (st.mail 1).length := ⟨_, rfl⟩
          have HML := Aside0.mk hml
          rw [← hml] at e4 hd4 hv1
          have hx4 := (HPV.out.fields.2.2 1 (by decide)).1
          rw [e4] at hx4
          have hx4 : wz.cell? ⟨p, 7, none⟩ = some (.slice A4 ml d4) := hx4
          have hml63 : ml ≤ 9223372036854775807 := by simp only [maxLen] at hd5; omega
          by_cases hkm : K < ml
          · have hkm' : (K : Int) < (ml : Int) := by omega
            have HV1 := Aside0.mk hv1
            have HV2 := Aside0.mk hv2
            have HV3 := Aside0.mk hv3
            have HE4 := Aside0.mk e4
            obtain ⟨K1, hK1⟩ : ∃ K1, K1 = K + 1 := ⟨_, rfl⟩
            have HK1 := Aside0.mk hK1
            have g1 : (K : Int) + 1 = (K1 : Int) := by omega
            have g2 : IntKind.i64.wrap ((K : Int) + 1) = (K1 : Int) := by rw [IntWalk.i64_in _ (by omega)]; omega
            have g3 : IntKind.i64.wrap (K1 : Int) = (K1 : Int) := IntWalk.i64_in _ (by omega)
            have g4 : K1 ≤ ml := by omega
            have g5 : (K1 : Int) ≤ (ml : Int) := by omega
            have g6 : ml ≤ d4 := hd4
            have g7 : (K : Int) ≤ (d4 : Int) := by omega
            have g8 : (K1 : Int) ≤ (d4 : Int) := by omega
            have g9 : d4 ≤ 9223372036854775807 := by simp only [maxLen] at hd5; omega
            have HLEM : Aside0 (ml ≤ 1000000 ∨ True) := ⟨.inr trivial⟩
            have HVW : Aside0 (∀ W3, Below wz.heap.size wz W3 → OwnAt W3 0 42 4 (.slice A4 ml d4) ml vs) := ⟨fun W3 hW => by
              have := HV1.out.move (fun k e => hW.block k (HV1.out.block e).2)
              rw [HE4.out] at this
              exact this⟩
            have HPB : Aside0 (∀ w4, wz.grownBy w4 (Value.slice A4 ml d4).ownBlock → w4.cell? ⟨p, 7, none⟩ = some (.slice A4 ml d4) ∧ w4.frozen? ⟨p, 7, none⟩ = false) := ⟨fun w4 hg => by
              have hpb : w4.heap[p]? = wz.heap[p]? := hg.block p (Array.getElem?_eq_some_iff.1 HPV.out.cells).1 (fun e => by
                have h1 := HPV.out.op
                rw [← HE4.out] at e
                have := HV2.out p e.symm
                omega)
              have h1 := HPV.out.fields.2.2 1 (by decide)
              rw [HE4.out] at h1
              have hcell : ∀ j, w4.cell? ⟨p, j, none⟩ = wz.cell? ⟨p, j, none⟩ := fun j => by unfold World.cell?; rw [hpb]
              have hfr : ∀ j, w4.frozen? ⟨p, j, none⟩ = wz.frozen? ⟨p, j, none⟩ := fun j => by unfold World.frozen?; rw [hpb]
              exact ⟨(hcell _).trans h1.1, (hfr _).trans h1.2⟩⟩
            have HON1 : Aside0 (∀ u ∈ vs, u.oneCell' = true) := ⟨frames_one (ls := st.mail 1) (P := fun u l => QB wz 0 u l ∧ ∀ k, u.ownBlock = some k → o2 k = 9) (by rw [← hml]; exact hv1.1) (fun u l h => by obtain ⟨_, _, rfl, _⟩ := h.1.form; rfl) hv3⟩
            have HKM := Aside0.mk hkm
            have HMB : Aside0 (ml ≤ 1000000) := ⟨by have := HMLE.out 1 (by decide); rw [← hml] at this; omega⟩
            have y1 := HPB.out wz.drew (grown_of_below (below_drew (Below.refl _ _)) _)
            clear hv1 hv2 hv3 e4 hd4 hd5 hml hkm hK1
            go_wp2_with fail
            go_region_law (refine step_cut rfl (.tmp 125) (.tmp 134) rfl A4 _ ml d4 K vs (HVW.out _ (by first | exact Below.refl _ _ | exact below_drew (Below.refl _ _))) HON1.out HKM.out HMB.out (by first | rfl | skip) (by first | rfl | (rw [← HK1.out]; rfl)) (fun h => by first | rfl | (rw [if_neg (by omega)]; rw [HK1.out])) ?_; intro v1 w4 ho1 hg1 hn1; obtain ⟨A5, d5, rfl, _⟩ := own_form ho1; have HG0 : Aside0 (wz.grownBy w4 (Value.slice A4 ml d4).ownBlock) := ⟨by first | exact hg1 | exact grown_below (below_drew (Below.refl _ _)) hg1⟩; obtain ⟨e0, f0⟩ := HPB.out _ HG0.out; have HO1 := Aside0.mk ho1; have HN1 : Aside0 ((Value.slice A5 (ml - 1) d5).ownBlock = (Value.slice A4 ml d4).ownBlock ∨ ∃ b, (Value.slice A5 (ml - 1) d5).ownBlock = some b ∧ wz.heap.size ≤ b) := ⟨hn1⟩; clear ho1 hg1 hn1)
            all_goals
              have ho1 := HO1.out
              have hn1 := HN1.out
              have hg0 := HG0.out
              rw [← HE4.out] at hn1 hg0
              have hfin : PV w (w4.setCell ⟨p, 7, none⟩ (.slice A5 (ml - 1) d5)) p (rl wz o2 (7 + 1)) (st.lose 1 K) a2 vt2 (upd vm2 1 (.slice A5 (ml - 1) d5)) := by
                have hlk : ((st.mail 1).take K ++ (st.mail 1).drop (K + 1)).length = ml - 1 := by
                  have := HKM.out
                  rw [List.length_append, List.length_take, List.length_drop, ← HML.out]
                  omega
                refine HPV.out.frames (i := 1) (ls := (st.mail 1).take K ++ (st.mail 1).drop (K + 1)) (vs := vs.take (K * 4) ++ vs.drop ((K + 1) * 4)) (by decide) (Below.refl _ _) (by rw [hlk]; exact ho1) hg0 hn1 ?_
                exact flab_cut (by rw [← HML.out]; exact HV1.out.1) (by rw [← HML.out]; exact HKM.out) HV3.out
              have HPN : Aside0 (PA w (w4.setCell ⟨p, 7, none⟩ (.slice A5 (ml - 1) d5)) p (rl wz o2 (7 + 1)) (st.lose 1 K)) := ⟨⟨_, _, _, hfin⟩⟩
              have HIN := Aside0.mk (HI.out.lose 1 K)
              have HLN : Aside0 (∀ i, i < 2 → ((st.lose 1 K).tx i).length ≤ n + 1) := ⟨fun i hi => Nat.le_succ_of_le (HLE.out i hi)⟩
              have HMN : Aside0 (∀ i, i < 2 → ((st.lose 1 K).mail i).length ≤ 16 * (n + 1)) := ⟨fun i hi => lose_len (HMLE.out i hi)⟩
              clear hfin ho1 hn1 hg0 g1 g2 g3 g4 g5 g6 g7 g8 g9 y1 hx4
              go_wp2_with fail
              all_goals
                refine (pfronts_calls w _ p _ _ HPN.out (fun i j hij => HIN.out.fronts hij) (fun i hi => by
                  have h1 := (HIN.out.fronts (i := i) (j := 1 - i) (by omega)).1
                  have h2 := HLN.out (1 - i) (by omega)
                  omega)).mono ?_
                rintro e wf ⟨rfl, hbf⟩
                have HPF := Aside0.mk (HPN.out.under hbf)
                clear hbf
                go_wp2_with fail
                exact ⟨⟨n + 1, _, _, by omega, by omega, by go_num, HPF, HIN, HLN, HMN⟩, by simp [intOf]; omega⟩
          · have hkm' : ¬ (K : Int) < (ml : Int) := by omega
            clear hv1 hv2 hv3 e4 hd4 hd5 hml hkm
            have HPN := HPR
            have HIN := HI
            have HMN : Aside0 (∀ i, i < 2 → (st.mail i).length ≤ 16 * (n + 1)) := ⟨fun i hi => by have := HMLE.out i hi; omega⟩
            have HLN : Aside0 (∀ i, i < 2 → (st.tx i).length ≤ n + 1) := ⟨fun i hi => Nat.le_succ_of_le (HLE.out i hi)⟩
            go_wp2_with fail
            refine (pfronts_calls w _ p _ _ HPN.out (fun i j hij => HIN.out.fronts hij) (fun i hi => by
              have h1 := (HIN.out.fronts (i := i) (j := 1 - i) (by omega)).1
              have h2 := HLN.out (1 - i) (by omega)
              omega)).mono ?_
            rintro e wf ⟨rfl, hbf⟩
            have HPF := Aside0.mk (HPN.out.under hbf)
            clear hbf
            go_wp2_with fail
            exact ⟨⟨n + 1, _, _, by omega, by omega, by go_num, HPF, HIN, HLN, HMN⟩, by simp [intOf]; omega⟩
        · have b0 : (kd == 0) = false := beq_eq_false_iff_ne.2 n0
          have b1 : (kd == 1) = false := beq_eq_false_iff_ne.2 n1
          have b2 : (kd == 2) = false := beq_eq_false_iff_ne.2 n2
          have b3 : (kd == 3) = false := beq_eq_false_iff_ne.2 n3
          clear n0 n1 n2 n3
          have HPN := HPR
          have HIN := HI
          have HMN : Aside0 (∀ i, i < 2 → (st.mail i).length ≤ 16 * (n + 1)) := ⟨fun i hi => by have := HMLE.out i hi; omega⟩
          have HLN : Aside0 (∀ i, i < 2 → (st.tx i).length ≤ n + 1) := ⟨fun i hi => Nat.le_succ_of_le (HLE.out i hi)⟩
          go_wp2_with fail
          refine (pfronts_calls w _ p _ _ HPN.out (fun i j hij => HIN.out.fronts hij) (fun i hi => by
            have h1 := (HIN.out.fronts (i := i) (j := 1 - i) (by omega)).1
            have h2 := HLN.out (1 - i) (by omega)
            omega)).mono ?_
          rintro e wf ⟨rfl, hbf⟩
          have HPF := Aside0.mk (HPN.out.under hbf)
          clear hbf
          go_wp2_with fail
          exact ⟨⟨n + 1, _, _, by omega, by omega, by go_num, HPF, HIN, HLN, HMN⟩, by simp [intOf]; omega⟩
    · rcases hend with hend | ⟨hlt, hend⟩
      · have hlt' : ¬ (n : Int) < (l.length : Int) := by omega
        have HN80 : Aside0 (n ≤ 80) := ⟨hn80⟩
        clear hend
        go_wp2_with fail
        go_ret
        exact ⟨rfl, o2, st, HPR.out, HI.out, fun i hi => Nat.le_trans (HLE.out i hi) HN80.out⟩
      · have hlt' : (n : Int) < (l.length : Int) := by omega
        have h80' : ¬ (n : Int) < 80 := by omega
        have HN80 : Aside0 (n ≤ 80) := ⟨hn80⟩
        clear hend
        go_wp2_with fail
        go_ret
        exact ⟨rfl, o2, st, HPR.out, HI.out, fun i hi => Nat.le_trans (HLE.out i hi) HN80.out⟩
end Go.Proofs.Ytcpkfkcemaihfaa.Oct
