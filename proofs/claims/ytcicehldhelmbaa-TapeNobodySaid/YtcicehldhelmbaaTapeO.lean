import Derived.Test.YtcicehldhelmbaaTapeN
import Derived.Test.YtcicehldhelmbaaTapeM
namespace Go.Proofs.Ytcicehldhelmbaa.Oct
open Go.RowKit Go.Proofs.YtcicehldhelmbaaW.PrintWords Go.Proofs.Ytcicehldhelmbaa.M
set_option linter.unusedVariables false
set_option linter.unusedSimpArgs false
set_option maxHeartbeats 2000000 in
theorem nobody_calls (w : World) (kd n : Int) (b : List Int) (B : Option Addr) (c : Nat) (hr : Kd.C (Kd.int .u8) w B b.length b) (ho : OpS.ok (kd, n, b)) (hlen : b.length ≤ 140737488355328) :
    Calls Try.prog 4 #[.agg #[.int .i64 kd, .int .i64 n, .slice B b.length c]] w (Yes w) := by
  have HR := Aside0.mk hr
  have HOK := Aside0.mk ho
  have HK1 : -9223372036854775808 ≤ kd := ho.1.1
  have HK2 : kd ≤ 9223372036854775807 := ho.1.2
  clear hr ho
  by_cases h1 : 1000 < b.length
  · go_enter Try.func4, Try.ntmps4
    go_wp2_with fail
    refine (alive_calls _).mono ?_
    rintro e w2 ⟨rfl, hb2⟩
    have HB2 := Aside0.mk ((below_alloc (Below.refl w.heap.size w) (.cells #[.int .i64 kd, .int .i64 n, .slice B b.length c] 32)).trans (hb2.mono (by simp)))
    clear hb2
    go_wp2_with fail
    go_ret
    exact ⟨rfl, HB2.out⟩
  · by_cases hk : 0 ≤ kd ∧ kd ≤ 4
    · obtain ⟨hk0, hk4⟩ := hk
      go_enter Try.func4, Try.ntmps4
      go_wp2_with fail
      obtain ⟨w1, hw1⟩ : ∃ w1, w1 = ((w.alloc (.cells #[.int .i64 kd, .int .i64 n, .slice B b.length c] 32)).alloc (.cells #[.int .i64 0, .slice none 0 0, .int .i64 0] 42)) := ⟨_, rfl⟩
      have HB1 : Aside0 (Below w.heap.size w w1) := ⟨by rw [hw1]; exact below_alloc (below_alloc (Below.refl _ _) _) _⟩
      have HU1 : Aside0 (NoTape (.pointer (some ⟨w.heap.size + 1, 0, none⟩)) w1) := ⟨.inr ⟨_, rfl, (three_cells (by rw [hw1]; exact heap_alloc_new' _ _ _ (by simp))).1⟩⟩
      have HO1 : Aside0 (w1.heap[w.heap.size]? = some (.cells #[.int .i64 kd, .int .i64 n, .slice B b.length c] 32 (0, 0))) := ⟨by rw [hw1]; exact ((below_alloc (Below.refl _ _) _).block _ (by simp)).trans (heap_alloc_new w _)⟩
      rw [← hw1]
      clear hw1
      refine (nocall_calls _ _ kd n b B c (.inl rfl) (Kd.C_below HR.out HB1.out) HOK.out hlen hk0 hk4).mono ?_
      rintro e w2 ⟨rfl, hb2⟩
      have HU2 := Aside0.mk (HU1.out.below hb2)
      have HB2 := Aside0.mk (HB1.out.trans (hb2.mono HB1.out.size))
      have HO2 := Aside0.mk (blk_keep HO1.out hb2)
      clear hb2
      obtain ⟨c0, c1, c2, f0, f1, f2⟩ := three_cells HO2.out
      go_wp2_with fail
      refine (nocall_calls _ _ kd n b B c HU2.out (Kd.C_below HR.out HB2.out) HOK.out hlen hk0 hk4).mono ?_
      rintro e w3 ⟨rfl, hb3⟩
      have HUX := Aside0.mk (HU2.out.below hb3)
      have HBX := Aside0.mk (HB2.out.trans (hb3.mono HB2.out.size))
      clear hb3
      go_wp2_with fail
      refine (alive_calls _).mono ?_
      rintro e w4 ⟨rfl, hb4⟩
      have HU4 := Aside0.mk (HUX.out.below hb4)
      have HB4 := Aside0.mk (HBX.out.trans (hb4.mono HBX.out.size))
      clear hb4
      go_wp2_with fail
      refine (bytes_none _ _ (.inl rfl)).mono ?_
      rintro e w4' ⟨rfl, rfl⟩
      go_wp2_with fail
      refine (bytes_none _ _ HU4.out).mono ?_
      rintro e w4' ⟨rfl, rfl⟩
      go_wp2_with fail
      refine (len_none _ _ (.inl rfl)).mono ?_
      rintro e w4' ⟨rfl, rfl⟩
      go_wp2_with fail
      refine (len_none _ _ HU4.out).mono ?_
      rintro e w4' ⟨rfl, rfl⟩
      go_wp2_with fail
      refine (forced_none _ _ (.inl rfl)).mono ?_
      rintro e w4' ⟨rfl, rfl⟩
      go_wp2_with fail
      refine (forced_none _ _ HU4.out).mono ?_
      rintro e w4' ⟨rfl, rfl⟩
      go_wp2_with fail
      refine (room_none _ _ (.inl rfl)).mono ?_
      rintro e w4' ⟨rfl, rfl⟩
      go_wp2_with fail
      refine (room_none _ _ HU4.out).mono ?_
      rintro e w4' ⟨rfl, rfl⟩
      go_wp2_with fail
      go_ret
      exact ⟨rfl, HB4.out⟩
    · have hk' : kd < 0 ∨ 4 < kd := by omega
      clear hk
      rcases hk' with hk | hk
      all_goals
        go_enter Try.func4, Try.ntmps4
        go_wp2_with fail
        obtain ⟨w1, hw1⟩ : ∃ w1, w1 = ((w.alloc (.cells #[.int .i64 kd, .int .i64 n, .slice B b.length c] 32)).alloc (.cells #[.int .i64 0, .slice none 0 0, .int .i64 0] 42)) := ⟨_, rfl⟩
        have HB1 : Aside0 (Below w.heap.size w w1) := ⟨by rw [hw1]; exact below_alloc (below_alloc (Below.refl _ _) _) _⟩
        have HU1 : Aside0 (NoTape (.pointer (some ⟨w.heap.size + 1, 0, none⟩)) w1) := ⟨.inr ⟨_, rfl, (three_cells (by rw [hw1]; exact heap_alloc_new' _ _ _ (by simp))).1⟩⟩
        have HO1 : Aside0 (w1.heap[w.heap.size]? = some (.cells #[.int .i64 kd, .int .i64 n, .slice B b.length c] 32 (0, 0))) := ⟨by rw [hw1]; exact ((below_alloc (Below.refl _ _) _).block _ (by simp)).trans (heap_alloc_new w _)⟩
        rw [← hw1]
        clear hw1
        have HUX := HU1
        have HBX := HB1
        refine (alive_calls _).mono ?_
        rintro e w4 ⟨rfl, hb4⟩
        have HU4 := Aside0.mk (HUX.out.below hb4)
        have HB4 := Aside0.mk (HBX.out.trans (hb4.mono HBX.out.size))
        clear hb4
        go_wp2_with fail
        refine (bytes_none _ _ (.inl rfl)).mono ?_
        rintro e w4' ⟨rfl, rfl⟩
        go_wp2_with fail
        refine (bytes_none _ _ HU4.out).mono ?_
        rintro e w4' ⟨rfl, rfl⟩
        go_wp2_with fail
        refine (len_none _ _ (.inl rfl)).mono ?_
        rintro e w4' ⟨rfl, rfl⟩
        go_wp2_with fail
        refine (len_none _ _ HU4.out).mono ?_
        rintro e w4' ⟨rfl, rfl⟩
        go_wp2_with fail
        refine (forced_none _ _ (.inl rfl)).mono ?_
        rintro e w4' ⟨rfl, rfl⟩
        go_wp2_with fail
        refine (forced_none _ _ HU4.out).mono ?_
        rintro e w4' ⟨rfl, rfl⟩
        go_wp2_with fail
        refine (room_none _ _ (.inl rfl)).mono ?_
        rintro e w4' ⟨rfl, rfl⟩
        go_wp2_with fail
        refine (room_none _ _ HU4.out).mono ?_
        rintro e w4' ⟨rfl, rfl⟩
        go_wp2_with fail
        go_ret
        exact ⟨rfl, HB4.out⟩
/-- a call that came in -/
theorem op_arg {H : Type} {enc : TypeId × Value → H} {w : World} {base : Nat} {spare : Nat → Bool} {held : Bool} {cs : Array Value} {dd : DataW H} {ps : List MemPlace} (hw : ∀ n ∈ DataW.weights Try.prog 32 dd, n ≤ reachBytes)
    (h : DataW.Trod enc Try.prog w base spare held 32 (.agg cs) dd ps) : ∃ kd n b B c, cs = #[.int .i64 kd, .int .i64 n, .slice B b.length c] ∧ Kd.C (Kd.int .u8) w B b.length b ∧ OpG (kd, n, b) := by
  obtain ⟨fuel, hf⟩ := h
  obtain ⟨⟨kd, n, b⟩, hK, hG⟩ := (opRd (w := w)).read fuel _ _ hf hw
  obtain ⟨c0, c1, e, h0, h1⟩ := hK
  obtain ⟨c2, c3, rfl, h2, B, c, rfl, hl, hC⟩ := h1
  have h0' : c0 = [.int .i64 kd] := h0
  have h2' : c2 = [.int .i64 n] := h2
  subst h0' h2'
  refine ⟨kd, n, b, B, c, ?_, hC, hG⟩
  have e' : cs.toList = [.int .i64 kd] ++ ([.int .i64 n] ++ [.slice B b.length c]) := e
  cases cs
  simpa using e'
end Go.Proofs.Ytcicehldhelmbaa.Oct
