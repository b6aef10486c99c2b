import Derived.Test.YtcpkfkcemaihfaaSessW
/- fronts. -/
namespace Go.Proofs.Ytcpkfkcemaihfaa.Oct
open Go.RowKit Go.Proofs.YtcpkfkcemaihfaaW.PrintWords Go.Proofs.Ytcpkfkcemaihfaa.M
set_option linter.unusedVariables false
set_option linter.unusedSimpArgs false
set_option maxRecDepth 20000 in
set_option maxHeartbeats 8000000 in
theorem pfronts_calls (w W : World) (p : Nat) (o : Nat → Nat) (st : Ps) (h : PA w W p o st) (hf : ∀ i j, (i = 0 ∧ j = 1 ∨ i = 1 ∧ j = 0) → (st.tx (2 + i)).length ≤ (st.tx j).length ∧ (st.e i).exp = (st.tx (2 + i)).length ∧ ∀ k, k < (st.tx (2 + i)).length → (st.tx (2 + i)).getD k [] = (st.tx j).getD k []) (hl : ∀ i, i < 2 → (st.tx (2 + i)).length ≤ 1000) :
    Calls Try.prog 26 #[.pointer (some ⟨p, 0, none⟩)] W (fun e W' => e = .returned (.bool true) ∧ Below W.heap.size W W') := by
  obtain ⟨a, vt, vm, h⟩ := h
  have HP := Aside0.mk h
  have HFR := Aside0.mk hf
  have HLN := Aside0.mk hl
  have HB0 : Aside0 (Below W.heap.size W W) := ⟨Below.refl _ _⟩
  clear h hf hl
  go_enter Try.func26, Try.ntmps26
  go_wp2_with fail
  go_loopw [3] (fun v3 wr => ∃ i : Nat, i ≤ 2 ∧ v3 = .int .i64 i ∧ Aside0 (Below W.heap.size W wr)) (fun v _ => 2 - (intOf v).toNat)
  case atStart => exact ⟨0, by omega, rfl, HB0⟩
  case round =>
    obtain ⟨i, hi, rfl, HB⟩ := hrel
    have hc : i = 0 ∨ i = 1 ∨ i = 2 := by omega
    rcases hc with rfl | rfl | rfl
    · obtain ⟨hle, hexp, heq⟩ := HFR.out 0 1 (by decide)
      have hl1 := HLN.out 0 (by decide)
      obtain ⟨Ao, co, eo, hco, hco2⟩ := (HP.out.texts (2 + 0) (by decide)).form
      obtain ⟨Ai, ci, ei, hci, hci2⟩ := (HP.out.texts 1 (by decide)).form
      have HTO : Aside0 (TLab w W o (3 + (2 + 0)) (.slice Ao (st.tx (2 + 0)).length co) (st.tx (2 + 0))) := ⟨by rw [← eo]; exact HP.out.texts (2 + 0) (by decide)⟩
      have HTI : Aside0 (TLab w W o (3 + 1) (.slice Ai (st.tx 1).length ci) (st.tx 1)) := ⟨by rw [← ei]; exact HP.out.texts 1 (by decide)⟩
      have HEQ := Aside0.mk heq
      obtain ⟨n, hn⟩ : ∃ n, n = (st.tx (2 + 0)).length := ⟨_, rfl⟩
      obtain ⟨m, hm⟩ : ∃ m, m = (st.tx 1).length := ⟨_, rfl⟩
      have HN := Aside0.mk hn
      have HM := Aside0.mk hm
      rw [← hn] at hle hexp hl1
      rw [← hm] at hle
      have hx1 := (HP.out.fields.2.1 (2 + 0) (by decide)).1
      have hx2 := (HP.out.fields.2.1 1 (by decide)).1
      have hx3 := HP.out.fields.1 0 (by decide)
      rw [eo, ← hn] at hx1
      rw [ei, ← hm] at hx2
      have HS : Aside0 (∀ W1, Below W.heap.size W W1 → W1.cell? ⟨p, 4, none⟩ = some (.slice Ao n co) ∧ W1.cell? ⟨p, 3, none⟩ = some (.slice Ai m ci) ∧ W1.cell? ⟨p, 0, none⟩ = some (.pointer (some ⟨a 0, 0, none⟩))) := ⟨fun W1 hW1 => ⟨(hW1.cell (World.block_lt_of_cell? _ _ hx1)).trans hx1, (hW1.cell (World.block_lt_of_cell? _ _ hx2)).trans hx2, (hW1.cell (World.block_lt_of_cell? _ _ hx3)).trans hx3⟩⟩
      have HCM : Aside0 (∀ W1, Below W.heap.size W W1 → Calls Try.prog 23 #[.pointer (some ⟨a 0, 0, none⟩)] W1 fun e w' => e = .returned (.int .i64 n) ∧ w' = W1) := ⟨fun W1 hW1 => by
        have := ecame_calls W1 (a 0) (st.e 0) _ ((HP.out.under hW1).ends 0 (by decide))
        rw [hexp] at this
        exact this⟩
      have hnm : decide (m < n) = false := decide_eq_false (by omega)
      have hnn : ((n : Int) != (n : Int)) = false := bne_self_eq_false _
      have HBD : Aside0 (Below W.heap.size W wr.drew) := ⟨below_drew HB.out⟩
      have HLE : Aside0 (n ≤ m ∧ n ≤ 1000) := ⟨by omega⟩
      clear hexp heq hx1 hx2 hx3 eo ei hn hm hle hl1 hco hci hco2 hci2
      go_wp2_with fail
      go_region_held_law (fun W1 => W1.cell? ⟨p, 4, none⟩ = some (.slice Ao n co) ∧ W1.cell? ⟨p, 3, none⟩ = some (.slice Ai m ci) ∧ W1.cell? ⟨p, 0, none⟩ = some (.pointer (some ⟨a 0, 0, none⟩))) (exact HS.out _ (Aside0.out (by assumption)))
        ((go_at_call 23; refine (HCM.out _ (Aside0.out (by assumption))).mono ?_; rintro e w' ⟨rfl, hw'⟩; have hw' := hw'.symm; subst hw'))
      all_goals
        obtain ⟨wq, hwq⟩ : ∃ wq, wq = wr.drew := ⟨_, rfl⟩
        have HBQ : Aside0 (Below W.heap.size W wq) := ⟨by rw [hwq]; exact HBD.out⟩
        try rw [← hwq]
        clear hnm hnn hwq HBD
        go_wp2_with fail
        go_loopw [4] (fun v4 wz => ∃ k : Nat, k ≤ n ∧ v4 = .int .i64 k ∧ Aside0 (Below W.heap.size W wz)) (fun v _ => n - (intOf v).toNat)
        case atStart => exact ⟨0, by omega, rfl, HBQ⟩
        case round =>
          obtain ⟨wz, hwz⟩ : ∃ wz, wz = wr := ⟨_, rfl⟩
          subst hwz
          obtain ⟨k, hk, rfl, HBZ⟩ := hrel
          obtain ⟨y1, y2, y3⟩ := HS.out _ HBZ.out
          have hn1 := HLE.out
          by_cases hkl : k < n
          · have hkl' : (k : Int) < (n : Int) := by omega
            have hkm' : (k : Int) < (m : Int) := by omega
            obtain ⟨g, off, Au, du, rfl, z1, hd1⟩ := HTO.out.get (k := k) (by rw [← HN.out]; exact hkl)
            obtain ⟨g', off', Bu, eu, rfl, z2, hd2⟩ := HTI.out.get (k := k) (by rw [← HM.out]; omega)
            rw [← HEQ.out k (by rw [← HN.out]; exact hkl)] at z2 hd2
            obtain ⟨t, ht⟩ : ∃ t, t = (st.tx (2 + 0)).getD k [] := ⟨_, rfl⟩
            rw [← ht] at z1 z2 hd1 hd2
            obtain ⟨u, hu⟩ : ∃ u, u = t.length := ⟨_, rfl⟩
            obtain ⟨SS, hSS⟩ : ∃ SS, SS = strOfNums t := ⟨_, rfl⟩
            have HR : Aside0 (∀ W1, Below W.heap.size W W1 → W1.cell? ⟨p, 4, none⟩ = some (.slice (some ⟨g, off, none⟩) n co) ∧ W1.cell? ⟨p, 2 + (IntKind.i64.wrap 1).toNat, none⟩ = some (.slice (some ⟨g', off', none⟩) m ci) ∧ W1.cell? ⟨g, off + k, none⟩ = some (.slice Au u du) ∧ W1.cell? ⟨g', off' + k, none⟩ = some (.slice Bu u eu) ∧ (convert 38 9 (.slice Au u du)).run Try.prog W1 = .ok (.string SS) W1 ∧ (convert 38 9 (.slice Bu u eu)).run Try.prog W1 = .ok (.string SS) W1) := ⟨fun W1 hW1 => by
              obtain ⟨c1, c2, _⟩ := HS.out _ hW1
              have hw1 := HP.out.below.trans (hW1.mono HP.out.below.size)
              have e1 := Kd.C_below (hd1.reads HP.out.below) hW1
              have e2 := Kd.C_below (hd2.reads HP.out.below) hW1
              refine ⟨c1, c2, ?_, ?_, ?_, ?_⟩
              · rw [hu]; exact (hW1.cell (World.block_lt_of_cell? _ _ z1)).trans z1
              · rw [hu]; exact (hW1.cell (World.block_lt_of_cell? _ _ z2)).trans z2
              · rw [hu, hSS]; exact Kd.C_string Try.underlying38 Try.underlying5 Try.underlying9 e1
              · rw [hu, hSS]; exact Kd.C_string Try.underlying38 Try.underlying5 Try.underlying9 e2⟩
            have HBZD : Aside0 (Below W.heap.size W wz.drew) := ⟨below_drew HBZ.out⟩
            have hss : (SS.toList == SS.toList) = true := beq_self_eq_true _
            clear z1 z2 hd1 hd2 ht hu hSS
            go_wp2_with fail
            go_region_held_law (fun W1 => W1.cell? ⟨p, 4, none⟩ = some (.slice (some ⟨g, off, none⟩) n co) ∧ W1.cell? ⟨p, 2 + (IntKind.i64.wrap 1).toNat, none⟩ = some (.slice (some ⟨g', off', none⟩) m ci) ∧ W1.cell? ⟨g, off + k, none⟩ = some (.slice Au u du) ∧ W1.cell? ⟨g', off' + k, none⟩ = some (.slice Bu u eu) ∧ (convert 38 9 (.slice Au u du)).run Try.prog W1 = .ok (.string SS) W1 ∧ (convert 38 9 (.slice Bu u eu)).run Try.prog W1 = .ok (.string SS) W1) (exact HR.out _ (Aside0.out (by assumption))) (fail)
            all_goals
              go_wp2_with fail
              exact ⟨⟨k + 1, by omega, by go_num, HBZD⟩, by simp [intOf]; omega⟩
          · have hkl' : ¬ (k : Int) < (n : Int) := by omega
            clear hkl
            go_wp2_with fail
            exact ⟨⟨0 + 1, by omega, by go_num, HBZ⟩, by simp [intOf]⟩
    · obtain ⟨hle, hexp, heq⟩ := HFR.out 1 0 (by decide)
      have hl1 := HLN.out 1 (by decide)
      obtain ⟨Ao, co, eo, hco, hco2⟩ := (HP.out.texts (2 + 1) (by decide)).form
      obtain ⟨Ai, ci, ei, hci, hci2⟩ := (HP.out.texts 0 (by decide)).form
      have HTO : Aside0 (TLab w W o (3 + (2 + 1)) (.slice Ao (st.tx (2 + 1)).length co) (st.tx (2 + 1))) := ⟨by rw [← eo]; exact HP.out.texts (2 + 1) (by decide)⟩
      have HTI : Aside0 (TLab w W o (3 + 0) (.slice Ai (st.tx 0).length ci) (st.tx 0)) := ⟨by rw [← ei]; exact HP.out.texts 0 (by decide)⟩
      have HEQ := Aside0.mk heq
      obtain ⟨n, hn⟩ : ∃ n, n = (st.tx (2 + 1)).length := ⟨_, rfl⟩
      obtain ⟨m, hm⟩ : ∃ m, m = (st.tx 0).length := ⟨_, rfl⟩
      have HN := Aside0.mk hn
      have HM := Aside0.mk hm
      rw [← hn] at hle hexp hl1
      rw [← hm] at hle
      have hx1 := (HP.out.fields.2.1 (2 + 1) (by decide)).1
      have hx2 := (HP.out.fields.2.1 0 (by decide)).1
      have hx3 := HP.out.fields.1 1 (by decide)
      rw [eo, ← hn] at hx1
      rw [ei, ← hm] at hx2
      have HS : Aside0 (∀ W1, Below W.heap.size W W1 → W1.cell? ⟨p, 5, none⟩ = some (.slice Ao n co) ∧ W1.cell? ⟨p, 2, none⟩ = some (.slice Ai m ci) ∧ W1.cell? ⟨p, 1, none⟩ = some (.pointer (some ⟨a 1, 0, none⟩))) := ⟨fun W1 hW1 => ⟨(hW1.cell (World.block_lt_of_cell? _ _ hx1)).trans hx1, (hW1.cell (World.block_lt_of_cell? _ _ hx2)).trans hx2, (hW1.cell (World.block_lt_of_cell? _ _ hx3)).trans hx3⟩⟩
      have HCM : Aside0 (∀ W1, Below W.heap.size W W1 → Calls Try.prog 23 #[.pointer (some ⟨a 1, 0, none⟩)] W1 fun e w' => e = .returned (.int .i64 n) ∧ w' = W1) := ⟨fun W1 hW1 => by
        have := ecame_calls W1 (a 1) (st.e 1) _ ((HP.out.under hW1).ends 1 (by decide))
        rw [hexp] at this
        exact this⟩
      have hnm : decide (m < n) = false := decide_eq_false (by omega)
      have hnn : ((n : Int) != (n : Int)) = false := bne_self_eq_false _
      have HBD : Aside0 (Below W.heap.size W wr.drew) := ⟨below_drew HB.out⟩
      have HLE : Aside0 (n ≤ m ∧ n ≤ 1000) := ⟨by omega⟩
      clear hexp heq hx1 hx2 hx3 eo ei hn hm hle hl1 hco hci hco2 hci2
      go_wp2_with fail
      go_region_held_law (fun W1 => W1.cell? ⟨p, 5, none⟩ = some (.slice Ao n co) ∧ W1.cell? ⟨p, 2, none⟩ = some (.slice Ai m ci) ∧ W1.cell? ⟨p, 1, none⟩ = some (.pointer (some ⟨a 1, 0, none⟩))) (exact HS.out _ (Aside0.out (by assumption)))
        ((go_at_call 23; refine (HCM.out _ (Aside0.out (by assumption))).mono ?_; rintro e w' ⟨rfl, hw'⟩; have hw' := hw'.symm; subst hw'))
      all_goals
        obtain ⟨wq, hwq⟩ : ∃ wq, wq = wr.drew := ⟨_, rfl⟩
        have HBQ : Aside0 (Below W.heap.size W wq) := ⟨by rw [hwq]; exact HBD.out⟩
        try rw [← hwq]
        clear hnm hnn hwq HBD
        go_wp2_with fail
        go_loopw [4] (fun v4 wz => ∃ k : Nat, k ≤ n ∧ v4 = .int .i64 k ∧ Aside0 (Below W.heap.size W wz)) (fun v _ => n - (intOf v).toNat)
        case atStart => exact ⟨0, by omega, rfl, HBQ⟩
        case round =>
          obtain ⟨wz, hwz⟩ : ∃ wz, wz = wr := ⟨_, rfl⟩
          subst hwz
          obtain ⟨k, hk, rfl, HBZ⟩ := hrel
          obtain ⟨y1, y2, y3⟩ := HS.out _ HBZ.out
          have hn1 := HLE.out
          by_cases hkl : k < n
          · have hkl' : (k : Int) < (n : Int) := by omega
            have hkm' : (k : Int) < (m : Int) := by omega
            obtain ⟨g, off, Au, du, rfl, z1, hd1⟩ := HTO.out.get (k := k) (by rw [← HN.out]; exact hkl)
            obtain ⟨g', off', Bu, eu, rfl, z2, hd2⟩ := HTI.out.get (k := k) (by rw [← HM.out]; omega)
            rw [← HEQ.out k (by rw [← HN.out]; exact hkl)] at z2 hd2
            obtain ⟨t, ht⟩ : ∃ t, t = (st.tx (2 + 1)).getD k [] := ⟨_, rfl⟩
            rw [← ht] at z1 z2 hd1 hd2
            obtain ⟨u, hu⟩ : ∃ u, u = t.length := ⟨_, rfl⟩
            obtain ⟨SS, hSS⟩ : ∃ SS, SS = strOfNums t := ⟨_, rfl⟩
            have HR : Aside0 (∀ W1, Below W.heap.size W W1 → W1.cell? ⟨p, 5, none⟩ = some (.slice (some ⟨g, off, none⟩) n co) ∧ W1.cell? ⟨p, 2 + (IntKind.i64.wrap 0).toNat, none⟩ = some (.slice (some ⟨g', off', none⟩) m ci) ∧ W1.cell? ⟨g, off + k, none⟩ = some (.slice Au u du) ∧ W1.cell? ⟨g', off' + k, none⟩ = some (.slice Bu u eu) ∧ (convert 38 9 (.slice Au u du)).run Try.prog W1 = .ok (.string SS) W1 ∧ (convert 38 9 (.slice Bu u eu)).run Try.prog W1 = .ok (.string SS) W1) := ⟨fun W1 hW1 => by
              obtain ⟨c1, c2, _⟩ := HS.out _ hW1
              have hw1 := HP.out.below.trans (hW1.mono HP.out.below.size)
              have e1 := Kd.C_below (hd1.reads HP.out.below) hW1
              have e2 := Kd.C_below (hd2.reads HP.out.below) hW1
              refine ⟨c1, c2, ?_, ?_, ?_, ?_⟩
              · rw [hu]; exact (hW1.cell (World.block_lt_of_cell? _ _ z1)).trans z1
              · rw [hu]; exact (hW1.cell (World.block_lt_of_cell? _ _ z2)).trans z2
              · rw [hu, hSS]; exact Kd.C_string Try.underlying38 Try.underlying5 Try.underlying9 e1
              · rw [hu, hSS]; exact Kd.C_string Try.underlying38 Try.underlying5 Try.underlying9 e2⟩
            have HBZD : Aside0 (Below W.heap.size W wz.drew) := ⟨below_drew HBZ.out⟩
            have hss : (SS.toList == SS.toList) = true := beq_self_eq_true _
            clear z1 z2 hd1 hd2 ht hu hSS
            go_wp2_with fail
            go_region_held_law (fun W1 => W1.cell? ⟨p, 5, none⟩ = some (.slice (some ⟨g, off, none⟩) n co) ∧ W1.cell? ⟨p, 2 + (IntKind.i64.wrap 0).toNat, none⟩ = some (.slice (some ⟨g', off', none⟩) m ci) ∧ W1.cell? ⟨g, off + k, none⟩ = some (.slice Au u du) ∧ W1.cell? ⟨g', off' + k, none⟩ = some (.slice Bu u eu) ∧ (convert 38 9 (.slice Au u du)).run Try.prog W1 = .ok (.string SS) W1 ∧ (convert 38 9 (.slice Bu u eu)).run Try.prog W1 = .ok (.string SS) W1) (exact HR.out _ (Aside0.out (by assumption))) (fail)
            all_goals
              go_wp2_with fail
              exact ⟨⟨k + 1, by omega, by go_num, HBZD⟩, by simp [intOf]; omega⟩
          · have hkl' : ¬ (k : Int) < (n : Int) := by omega
            clear hkl
            go_wp2_with fail
            exact ⟨⟨1 + 1, by omega, by go_num, HBZ⟩, by simp [intOf]⟩
    · go_wp2_with fail
      go_ret
      exact ⟨rfl, HB.out⟩
end Go.Proofs.Ytcpkfkcemaihfaa.Oct
