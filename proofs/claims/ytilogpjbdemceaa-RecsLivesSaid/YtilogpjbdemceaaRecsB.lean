import Derived.Test.YtilogpjbdemceaaRecsA
import Derived.Deep.RegionHeldLaw
namespace Go.Proofs.Ytilogpjbdemceaa.Oct
open Go.RowKit Go.Proofs.YtilogpjbdemceaaW.PrintWords Go.Proofs.Ytilogpjbdemceaa.M
set_option linter.unusedVariables false
set_option linter.unusedSimpArgs false
set_option maxHeartbeats 1000000 in
theorem part_calls (w : World) (g off N c : Nat) (zs : List Int) (hr : Kd.C (Kd.int .u8) w (some ⟨g, off, none⟩) zs.length zs) (h1 : zs.length ≤ N) (h2 : N ≤ c) (h3 : c ≤ maxLen) (hz : zs.length ≤ 65536) :
    Calls Try.prog 43 #[.slice (some ⟨g, off, none⟩) N c, .int .i64 zs.length] w fun e w' => ∃ v, e = .returned (.tuple #[v, .slice (some ⟨g, if zs.length = c then off else off + zs.length, none⟩) (N - zs.length) (c - zs.length)]) ∧ OB w' w.heap.size v zs ∧ Below w.heap.size w w' := by
  have HC : Aside0 (∀ W, Below w.heap.size w W → Kd.C (Kd.int .u8) W (some ⟨g, off, none⟩) zs.length zs) := ⟨fun W hW => Kd.C_below hr hW⟩
  have HZ := Aside0.mk hz
  clear hr
  simp only [maxLen] at h3
  have k0 : (0 : Int) ≤ (zs.length : Int) := by omega
  have k1 : (zs.length : Int) ≤ (N : Int) := by omega
  have k2 : (N : Int) ≤ (c : Int) := by omega
  have k3 : (zs.length : Int) ≤ (c : Int) := by omega
  by_cases hc : zs.length = c
  · obtain rfl : N = zs.length := by omega
    subst hc
    go_enter Try.func43, Try.ntmps43
    go_wp2_with fail
    go_region_held_law (fun w' => True) (exact trivial)
      ((go_at_call 40; refine (clone_calls _ _ zs.length zs (HC.out _ (by first | exact Below.refl _ _ | exact below_drew (Below.refl _ _))) (by have := HZ.out; omega)).mono ?_; rintro e w1 ⟨v, rfl, ho, hb⟩; have HO := Aside0.mk ho; have HB := Aside0.mk hb; clear ho hb))
    all_goals
      go_wp2_with fail
      go_ret2
      first | exact ⟨_, by first | rfl | simp | (rw [if_pos rfl]; simp), HO.out, HB.out⟩ | exact ⟨_, by first | rfl | simp | (rw [if_pos rfl]; simp), HO.out, (below_drew (Below.refl w.heap.size w)).trans HB.out⟩
  · have HE : Aside0 (¬ zs.length = c) := ⟨hc⟩
    go_enter Try.func43, Try.ntmps43
    go_wp2_with fail
    go_region_held_law (fun w' => True) (exact trivial)
      ((go_at_call 40; refine (clone_calls _ _ c zs (HC.out _ (by first | exact Below.refl _ _ | exact below_drew (Below.refl _ _))) (by have := HZ.out; omega)).mono ?_; rintro e w1 ⟨v, rfl, ho, hb⟩; have HO := Aside0.mk ho; have HB := Aside0.mk hb; clear ho hb))
    all_goals
      go_wp2_with fail
      go_ret2
      first | exact ⟨_, by first | rfl | simp | (rw [if_neg HE.out]; simp), HO.out, HB.out⟩ | exact ⟨_, by first | rfl | simp | (rw [if_neg HE.out]; simp), HO.out, (below_drew (Below.refl w.heap.size w)).trans HB.out⟩
end Go.Proofs.Ytilogpjbdemceaa.Oct
