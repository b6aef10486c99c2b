import Derived.Test.YtdagpeencafheaaOctQ
import Derived.Deep.RegionHeldLaw
namespace Go.Proofs.Ytdagpeencafheaa.Oct
open Go.RowKit Go.Proofs.YtdagpeencafheaaW.PrintWords Go.Proofs.Ytdagpeencafheaa.M
set_option linter.unusedVariables false
set_option linter.unusedSimpArgs false
theorem C_str {w : World} {A : Option Addr} {n c : Nat} {xs : List Int} (h : (Kd.int .u8).C w A n xs) : (convert 22 9 (.slice A n c)).run Try.prog w = .ok (.string (strOfNums xs)) w :=
  Kd.C_string Try.underlying22 Try.underlying5 Try.underlying9 h
set_option maxHeartbeats 1000000 in
theorem same_calls (w : World) (l : List (List Int)) (A B : Option Addr) (c d : Nat) (h : partK.C w A l.length l) (h2 : partK.C w B l.length l) :
    Calls Try.prog 30 #[.slice A l.length c, .slice B l.length d] w fun e w' => e = .returned (.bool true) ∧ Below w.heap.size w w' := by
  have HL := Aside0.mk h
  have HR := Aside0.mk h2
  have hll : l.length ≤ 9223372036854775807 := h.2.1
  clear h h2
  go_enter Try.func30, Try.ntmps30
  go_wp2_with fail
  go_loopw [5] (fun v5 wr => ∃ (k : Nat), k ≤ l.length ∧ v5 = .int .i64 k ∧ Aside0 (Below w.heap.size w wr)) (fun v _ => l.length - (intOf v).toNat)
  case atStart => exact ⟨0, by omega, rfl, ⟨Below.refl _ _⟩⟩
  case round =>
    obtain ⟨k, hk, rfl, HB⟩ := hrel
    by_cases hlt : k < l.length
    · obtain ⟨ad, B1, d1, rfl, hcell1, _, hrd1⟩ := part_at HL.out hlt
      obtain ⟨ad2, B2, d2, rfl, hcell2, _, hrd2⟩ := part_at HR.out hlt
      obtain ⟨q, hq⟩ : ∃ q, q = l.getD k [] := ⟨_, rfl⟩
      rw [← hq] at hcell1 hcell2 hrd1 hrd2
      clear hq
      obtain ⟨n, hn⟩ : ∃ n, n = q.length := ⟨_, rfl⟩
      rw [← hn] at hcell1 hcell2
      have HS : Aside0 (∀ W, Below w.heap.size w W → W.cell? (ad.add k) = some (.slice B1 n d1) ∧ W.cell? (ad2.add k) = some (.slice B2 n d2) ∧ (convert 22 9 (.slice B1 n d1)).run Try.prog W = .ok (.string (strOfNums q)) W ∧ (convert 22 9 (.slice B2 n d2)).run Try.prog W = .ok (.string (strOfNums q)) W) := ⟨fun W hW => by
        exact ⟨(hW.cell (World.block_lt_of_cell? _ _ hcell1)).trans hcell1, (hW.cell (World.block_lt_of_cell? _ _ hcell2)).trans hcell2, by rw [hn]; exact C_str (Kd.C_below hrd1 hW), by rw [hn]; exact C_str (Kd.C_below hrd2 hW)⟩⟩
      obtain ⟨S, hS⟩ : ∃ S, S = strOfNums q := ⟨_, rfl⟩
      rw [← hS] at HS
      have HBD : Aside0 (Below w.heap.size w wr.drew) := ⟨below_drew HB.out⟩
      clear hn hS hrd1 hrd2 hcell1 hcell2
      go_wp2_with fail
      go_region_held_law (fun W => W.cell? (ad.add k) = some (.slice B1 n d1) ∧ W.cell? (ad2.add k) = some (.slice B2 n d2) ∧ (convert 22 9 (.slice B1 n d1)).run Try.prog W = .ok (.string S) W ∧ (convert 22 9 (.slice B2 n d2)).run Try.prog W = .ok (.string S) W) (exact HS.out _ HBD.out) (fail)
      all_goals
        go_wp2_with fail
        refine ⟨⟨k + 1, by omega, by go_num, HBD⟩, by simp [intOf]; omega⟩
    · obtain rfl : k = l.length := by omega
      go_wp2_with fail
      go_ret
      exact ⟨rfl, HB.out⟩
end Go.Proofs.Ytdagpeencafheaa.Oct
