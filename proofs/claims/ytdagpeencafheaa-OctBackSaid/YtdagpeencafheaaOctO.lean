import Derived.Test.YtdagpeencafheaaOctN
namespace Go.Proofs.Ytdagpeencafheaa.Oct
open Go.RowKit Go.Proofs.YtdagpeencafheaaW.PrintWords Go.Proofs.Ytdagpeencafheaa.M
set_option linter.unusedVariables false
set_option linter.unusedSimpArgs false
set_option maxHeartbeats 2000000 in
theorem rjoin_calls (w : World) (l : List (List Int)) (A : Option Addr) (c : Nat) (h : partK.C w A l.length l) :
    Calls Try.prog 23 #[.slice A l.length c] w (RetJoin w l) := by
  have HL := Aside0.mk h
  have hll : l.length ≤ 9223372036854775807 := h.2.1
  clear h
  by_cases hn : 1000 < l.length
  · have HJ : Aside0 (joinM l = ([], 2)) := ⟨by unfold joinM; rw [if_pos (.inl hn)]⟩
    go_enter Try.func23, Try.ntmps23
    go_wp2_with fail
    go_ret2
    exact ⟨.slice none 0 0, by rw [HJ.out]; rfl, by rw [HJ.out]; exact OB.nil _ _, Below.refl _ _⟩
  · go_enter Try.func23, Try.ntmps23
    go_wp2_with fail
    go_loopw [4, 5, 6] (fun v4 v5 _ wr => ∃ (k : Nat), k ≤ l.length ∧ v5 = .int .i64 k ∧ Aside0 (OB wr w.heap.size v4 (joinB (l.take k))) ∧ Aside0 (Below w.heap.size w wr) ∧ Aside0 (∀ j, j < k → (l.getD j []).length ≤ 65535)) (fun _ v _ _ => l.length - (intOf v).toNat)
    case atStart => exact ⟨0, by omega, rfl, ⟨OB.nil _ _⟩, ⟨Below.refl _ _⟩, ⟨fun j hj => by omega⟩⟩
    case round =>
      obtain ⟨k, hk, rfl, HO, HB, HS⟩ := hrel
      have HT : Aside0 (∀ p ∈ l.take k, p.length ≤ 65535) := ⟨fun p hp => by
        obtain ⟨j, hj, rfl⟩ := List.mem_take_iff_getElem.1 hp
        have := HS.out j (by omega)
        rw [List.getD_eq_getElem?_getD, List.getElem?_eq_getElem (by omega)] at this
        exact this⟩
      by_cases hlt : k < l.length
      · obtain ⟨ad, B, d, rfl, hcell0, _, hrd⟩ := part_at HL.out hlt
        have hcell := (HB.out.cell (World.block_lt_of_cell? _ _ hcell0)).trans hcell0
        have HC0 := Aside0.mk hcell0
        clear hcell0
        have HM := Aside0.mk (joinB_take l k hlt)
        have HIN : Aside0 (l.getD k [] ∈ l) := ⟨by rw [List.getD_eq_getElem?_getD, List.getElem?_eq_getElem hlt]; exact List.getElem_mem hlt⟩
        have hol := joinB_length (l.take k) k (by rw [List.length_take]; omega) HT.out
        obtain ⟨q, hq⟩ : ∃ q, q = l.getD k [] := ⟨_, rfl⟩
        have HQ := Aside0.mk hq
        rw [← hq] at hcell hrd HM HIN HC0
        clear hq
        have HRD := Aside0.mk hrd
        clear hrd
        obtain ⟨n, hn2⟩ : ∃ n, n = q.length := ⟨_, rfl⟩
        have HN := Aside0.mk hn2
        rw [← hn2] at hcell HC0
        clear hn2
        have hnl : n ≤ 9223372036854775807 := by rw [HN.out]; exact HRD.out.2.1
        by_cases h5 : 65535 < n
        · have HJ : Aside0 (joinM l = ([], 2)) := ⟨by unfold joinM; rw [if_pos (.inr ⟨q, HIN.out, by rw [← HN.out]; exact h5⟩)]⟩
          go_wp2_with fail
          go_ret2
          exact ⟨.slice none 0 0, by rw [HJ.out]; rfl, by rw [HJ.out]; exact OB.nil _ _, HB.out⟩
        · have q1 : IntKind.u8.wrap ((n : Int) / 256) = (n : Int) / 256 := by rw [IntKind.wrap_u8]; omega
          have q2 : IntKind.u8.wrap ((n : Int) % 256) = (n : Int) % 256 := by rw [IntKind.wrap_u8]; omega
          have q3 : (n : Int).tdiv 256 = (n : Int) / 256 := Int.tdiv_eq_ediv_of_nonneg (by omega)
          have q4 : (n : Int).tmod 256 = (n : Int) % 256 := Int.tmod_eq_emod_of_nonneg (by omega)
          have HS2 : Aside0 (∀ j, j < k + 1 → (l.getD j []).length ≤ 65535) := ⟨fun j hj => by
            by_cases hjk : j = k
            · rw [hjk, ← HQ.out, ← HN.out]; omega
            · exact HS.out j (by omega)⟩
          go_wp2_with (first
            | ((with_reducible refine gate_dst (N := 31) rfl ?_); at_builtin; refine app_bytes (W0 := w) w.heap.size rfl (.tmp 23) (.tmp 30) rfl _ (joinB (l.take k)) [(n : Int) / 256, (n : Int) % 256] (some ⟨wr.heap.size, 0, none⟩) 2 2 rfl rfl (HO.out.alloc _) (block_reads [(n : Int) / 256, (n : Int) % 256] (heap_alloc_new wr (.cells (nums .u8 [(n : Int) / 256, (n : Int) % 256]).toArray 5)) (by simp)) (below_alloc HB.out _) (below_alloc HB.out _).size ?aL ?_; (case aL => omega); intro v1 w2 ho1 hb1 _ _; have HO1 := Aside0.mk ho1; have HB1 := Aside0.mk hb1; have hcell2 := (hb1.cell (World.block_lt_of_cell? _ _ HC0.out)).trans HC0.out; clear ho1 hb1)
            | ((with_reducible refine gate_dst (N := 37) rfl ?_); at_builtin; refine app_bytes (W0 := w) w.heap.size rfl (.tmp 32) (.tmp 36) rfl v1 _ q B n d rfl rfl HO1.out (by rw [HN.out]; exact Kd.C_below HRD.out HB1.out) HB1.out HB1.out.size ?aL2 ?_; (case aL2 => rw [List.length_append]; simp; omega); intro v2 w3 ho2 hb2 _ _; have HO2 : Aside0 (OB w3 w.heap.size v2 (joinB (l.take (k + 1)))) := ⟨by rw [HM.out]; unfold partH; rw [← HN.out]; exact ho2⟩; have HB2 := Aside0.mk hb2; clear ho2 hb2))
          refine ⟨⟨k + 1, by omega, by go_num, HO2, HB2, HS2⟩, by simp [intOf]; omega⟩
      · obtain rfl : k = l.length := by omega
        have HJ : Aside0 (joinM l = (joinB l, 0)) := ⟨by unfold joinM; rw [if_neg]; rintro (h | ⟨p, hp, h⟩); (· exact hn h); (· have := HT.out p (by rw [List.take_length]; exact hp); omega)⟩
        go_wp2_with fail
        go_ret2
        refine ⟨_, by rw [HJ.out]; rfl, ?_, HB.out⟩
        rw [HJ.out, ← show joinB (l.take l.length) = joinB l by rw [List.take_length]]
        exact HO.out
end Go.Proofs.Ytdagpeencafheaa.Oct
