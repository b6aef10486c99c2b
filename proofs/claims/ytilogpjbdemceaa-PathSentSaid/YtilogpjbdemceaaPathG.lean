import Derived.Test.YtilogpjbdemceaaPathH
namespace Go.Proofs.Ytilogpjbdemceaa.Oct
open Go.RowKit Go.Proofs.YtilogpjbdemceaaW.PrintWords Go.Proofs.Ytilogpjbdemceaa.M
set_option linter.unusedVariables false
set_option linter.unusedSimpArgs false
theorem C_str {w : World} {A : Option Addr} {n c : Nat} {xs : List Int} (h : (Kd.int .u8).C w A n xs) : (convert 26 9 (.slice A n c)).run Try.prog w = .ok (.string (strOfNums xs)) w :=
  Kd.C_string Try.underlying26 Try.underlying5 Try.underlying9 h
theorem send_next {l : List (List Int)} {i : Nat} (hi : i < l.length) (h2 : i < 256) (h5 : (l.getD i []).length ≤ 512) : sendB (l.take i) (l.getD i []) = (l.take (i + 1), 0) := by
  unfold sendB
  rw [if_neg (by omega), if_neg (by rw [List.length_take]; omega), List.take_succ_eq_append_getElem hi, List.getD_eq_getElem?_getD, List.getElem?_eq_getElem hi]
  rfl
theorem take_first {l : List (List Int)} {k : Nat} (hk : k < l.length) : takeB (l.drop k) 0 = (l.drop (k + 1), l.getD k [], 0) := by
  unfold takeB
  rw [there_yes (by rw [List.length_drop]; omega), if_pos rfl]
  have h : l.drop k = l[k] :: l.drop (k + 1) := List.drop_eq_getElem_cons hk
  rw [h]
  simp [List.getD_eq_getElem?_getD, List.getElem?_eq_getElem hk]
theorem take_none : takeB [] 0 = ([], [], 4) := by kernel_rfl
set_option maxRecDepth 20000 in
set_option maxHeartbeats 4000000 in
theorem pfirst_calls (w : World) (l : List (List Int)) (A : Option Addr) (c : Nat) (h : textK.C w A l.length l) (hb : ∀ x ∈ l, Bytes x) : Calls Try.prog 4 #[.slice A l.length c] w (Yes w) := by
  have HL := Aside0.mk h
  have HX := Aside0.mk hb
  have hll : l.length ≤ 9223372036854775807 := h.2.1
  clear h hb
  by_cases h2 : 200 < (l.length : Int)
  · go_enter Try.func4, Try.ntmps4
    go_wp2_with fail
    refine (pnew_at _).mono ?_
    rintro e w1 ⟨rfl, ht, hb⟩
    have HB1 := Aside0.mk hb
    clear ht hb
    go_wp2_with fail
    refine (palive_calls _).mono ?_
    rintro e w3 ⟨rfl, hb3⟩
    have HB3 := Aside0.mk (HB1.out.trans (hb3.mono HB1.out.size))
    clear hb3
    go_wp2_with fail
    go_ret
    exact ⟨rfl, HB3.out⟩
  have h2' : (l.length : Int) ≤ 200 := by omega
  clear h2
  go_enter Try.func4, Try.ntmps4
  go_wp2_with fail
  refine (pnew_at _).mono ?_
  rintro e w1 ⟨rfl, ht, hb⟩
  obtain ⟨p, hp⟩ : ∃ p, p = w.heap.size := ⟨_, rfl⟩
  have HT : Aside0 (PathAt w1 p [] (fun k => w.heap.size ≤ k)) := ⟨by rw [hp]; exact ht.mono (fun k h _ => by rw [h]; exact Nat.le_refl _)⟩
  rw [← hp]
  have HB1 := Aside0.mk hb
  clear ht hb hp
  go_wp2_with fail
  go_loopw [4] (fun v4 wr => ∃ i : Nat, i ≤ l.length ∧ v4 = .int .i64 i ∧ Aside0 (Below w.heap.size w wr) ∧ Aside0 (PathAt wr p (l.take i) (fun k => w.heap.size ≤ k))) (fun v _ => l.length - (intOf v).toNat)
  case atStart => exact ⟨0, by omega, rfl, HB1, ⟨by rw [List.take_zero]; exact HT.out⟩⟩
  case round =>
    obtain ⟨i, hi, rfl, HB, HP⟩ := hrel
    by_cases hlt : i < l.length
    · obtain ⟨ad, B, cB, rfl, hcell, hC⟩ := text_at (Kd.C_below HL.out HB.out) hlt
      have HC := Aside0.mk hC
      have HBY : Aside0 (Bytes (l.getD i [])) := ⟨HX.out _ (by rw [List.getD_eq_getElem?_getD, List.getElem?_eq_getElem hlt]; exact List.getElem_mem hlt)⟩
      have hCl : (l.getD i []).length ≤ 9223372036854775807 := hC.2.1
      have HNX : Aside0 ((l.getD i []).length ≤ 512 → sendB (l.take i) (l.getD i []) = (l.take (i + 1), 0)) := ⟨fun h5 => send_next hlt (by omega) h5⟩
      obtain ⟨x, hx⟩ : ∃ x, x = l.getD i [] := ⟨_, rfl⟩
      rw [← hx] at hcell HC HBY hCl HNX
      clear hx hC
      by_cases h5 : 512 < (x.length : Int)
      · go_wp2_with fail
        refine (palive_calls _).mono ?_
        rintro e w3 ⟨rfl, hb3⟩
        have HB3 := Aside0.mk (HB.out.trans (hb3.mono HB.out.size))
        clear hb3
        go_wp2_with fail
        go_ret
        exact ⟨rfl, HB3.out⟩
      · have h5' : (x.length : Int) ≤ 512 := by omega
        have HN2 := Aside0.mk (HNX.out (by omega))
        clear h5
        go_wp2_with fail
        refine (psend_calls _ p _ _ B cB x HP.out.near HC.out HBY.out).mono ?_
        rw [HN2.out]
        intro e w2 hr
        obtain ⟨rfl, ht, _, hb⟩ := pret_in HB.out hr
        have HT2 := Aside0.mk ht
        have HB2 := Aside0.mk hb
        clear ht hb hr hcell
        go_wp2_with fail
        exact ⟨⟨i + 1, by omega, by go_num, HB2, HT2⟩, by simp [intOf]; omega⟩
    · obtain rfl : i = l.length := by omega
      have HP0 : Aside0 (PathAt wr p (l.drop 0) (fun k => w.heap.size ≤ k)) := ⟨by have := HP.out; rwa [List.take_length] at this⟩
      clear hlt HP
      go_wp2_with fail
      go_loopw [5] (fun v5 wr => ∃ k : Nat, k ≤ l.length ∧ v5 = .int .i64 k ∧ Aside0 (Below w.heap.size w wr) ∧ Aside0 (PathAt wr p (l.drop k) (fun k => w.heap.size ≤ k))) (fun v _ => l.length - (intOf v).toNat)
      case atStart => exact ⟨0, by omega, rfl, HB, HP0⟩
      case round =>
        obtain ⟨k, hk, rfl, HBk, HPk⟩ := hrel
        by_cases hlt : k < l.length
        · obtain ⟨ad, B, cB, rfl, hcell, hC⟩ := text_at HL.out hlt
          have HTF := Aside0.mk (take_first hlt)
          have HCL : Aside0 (∀ W, Below w.heap.size w W → W.cell? (ad.add k) = some (.slice B (l.getD k []).length cB) ∧ (convert 26 9 (.slice B (l.getD k []).length cB)).run Try.prog W = .ok (.string (strOfNums (l.getD k []))) W) := ⟨fun W hW => ⟨(hW.cell (World.block_lt_of_cell? _ _ hcell)).trans hcell, C_str (Kd.C_below hC hW)⟩⟩
          obtain ⟨x, hx⟩ : ∃ x, x = l.getD k [] := ⟨_, rfl⟩
          rw [← hx] at HCL HTF
          clear hx hC hcell
          obtain ⟨L, hL⟩ : ∃ L, L = x.length := ⟨_, rfl⟩
          have HLL := Aside0.mk hL
          rw [← hL] at HCL
          clear hL
          go_wp2_with fail
          refine (ptake_calls _ p _ _ 0 HPk.out.near).mono ?_
          rw [HTF.out]
          intro e w2 hr
          obtain ⟨A2, d2, rfl, hq, ht, _, hb⟩ := ptake_in HBk.out hr
          rw [← HLL.out]
          have HT2 := Aside0.mk ht
          have HB2 := Aside0.mk hb
          have HTD := Aside0.mk (ht.below (below_drew (Below.refl w2.heap.size w2)))
          have HBD := Aside0.mk (below_drew hb)
          have HQ : Aside0 (∀ W, Below w2.heap.size w2 W → (convert 26 9 (.slice A2 L d2)).run Try.prog W = .ok (.string (strOfNums x)) W) := ⟨fun W hW => by have := (hq.below hW).string; rwa [← HLL.out] at this⟩
          obtain ⟨str, hstr⟩ : ∃ str, str = strOfNums x := ⟨_, rfl⟩
          rw [← hstr] at HQ HCL
          clear hr hq ht hb hstr
          go_wp2_with fail
          go_region_held_law (fun W => W.cell? (ad.add k) = some (.slice B L cB) ∧ (convert 26 9 (.slice A2 L d2)).run Try.prog W = .ok (.string str) W ∧ (convert 26 9 (.slice B L cB)).run Try.prog W = .ok (.string str) W) (exact ⟨(HCL.out _ HBD.out).1, HQ.out _ (below_drew (Below.refl _ _)), (HCL.out _ HBD.out).2⟩) (fail)
          all_goals
            go_wp2_with fail
            exact ⟨⟨k + 1, by omega, by go_num, HBD, HTD⟩, by simp [intOf]; omega⟩
        · obtain rfl : k = l.length := by omega
          have HP1 : Aside0 (PathAt wr p [] (fun k => w.heap.size ≤ k)) := ⟨by have := HPk.out; rwa [List.drop_length] at this⟩
          clear hlt HPk
          go_wp2_with fail
          refine (ptake_calls _ p _ _ 0 HP1.out.near).mono ?_
          rw [take_none]
          intro e w2 hr
          obtain ⟨A2, d2, rfl, hq, ht, _, hb⟩ := ptake_in HBk.out hr
          have HB2 := Aside0.mk hb
          clear hr hq ht hb
          go_wp2_with fail
          refine (palive_calls _).mono ?_
          rintro e w3 ⟨rfl, hb3⟩
          have HB3 := Aside0.mk (HB2.out.trans (hb3.mono HB2.out.size))
          clear hb3
          go_wp2_with fail
          go_ret
          exact ⟨rfl, HB3.out⟩
end Go.Proofs.Ytilogpjbdemceaa.Oct
