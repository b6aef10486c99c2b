import Derived.Test.YtdagpeencafheaaOctO
import Derived.Test.YtdagpeencafheaaReadO
namespace Go.Proofs.Ytdagpeencafheaa.Oct
open Go.RowKit Go.Proofs.YtdagpeencafheaaW.PrintWords Go.Proofs.Ytdagpeencafheaa.M Go.Proofs.Ytdagpeencafheaa.Rd
set_option linter.unusedVariables false
set_option linter.unusedSimpArgs false
section
variable {H : Type} {enc : TypeId × Value → H} {w : World} {base : Nat} {spare : Nat → Bool} {held : Bool}
theorem bytesRd : Rd enc Try.prog w base spare held 22 (Kd.slice 5 (Kd.int .u8)) (fun xs => (∀ x ∈ xs, (Lit.int .u8 x).wf = true) ∧ xs.length * Try.prog.bytesOf 5 ≤ reachBytes) :=
  Rd.slice Try.underlying22 (by kernel_rfl) (Rd.int Try.underlying5 (by kernel_rfl))
theorem bytes_len {xs : List Int} (h : xs.length * Try.prog.bytesOf 5 ≤ reachBytes) : xs.length ≤ 140737488355328 := by
  have h1 : Try.prog.bytesOf 5 = 1 := by kernel_rfl
  rw [h1] at h
  have := reachBytes_lt
  omega
def PartG (xs : List Int) : Prop := (∀ x ∈ xs, (Lit.int .u8 x).wf = true) ∧ xs.length * Try.prog.bytesOf 5 ≤ reachBytes
theorem partsRd : Rd enc Try.prog w base spare held 38 (Kd.slice 22 partK) (fun xs => (∀ x ∈ xs, PartG x) ∧ xs.length * Try.prog.bytesOf 22 ≤ reachBytes) := Rd.slice Try.underlying38 (by kernel_rfl) bytesRd
end
set_option maxHeartbeats 2000000 in
theorem joins_calls (w : World) (l : List (List Int)) (A : Option Addr) (c : Nat) (h : partK.C w A l.length l) :
    Calls Try.prog 7 #[.slice A l.length c] w (Yes w) := by
  have HL := Aside0.mk h
  have hll : l.length ≤ 9223372036854775807 := h.2.1
  clear h
  by_cases h4 : 40 < l.length ∧ l.length ≤ 1000
  · obtain ⟨h40, h41⟩ := h4
    go_enter Try.func7, Try.ntmps7
    go_wp2_with fail
    refine (alive_calls _).mono ?_
    rintro e w2 ⟨rfl, hb2⟩
    have HB2 := Aside0.mk hb2
    clear hb2
    go_wp2_with fail
    go_ret
    exact ⟨rfl, HB2.out⟩
  · go_enter Try.func7, Try.ntmps7
    have h4' : l.length ≤ 40 ∨ (40 < l.length ∧ 1000 < l.length) := by omega
    clear h4
    rcases h4' with h4 | ⟨h4, h5⟩
    all_goals
      go_wp2_with fail
      go_loopw [3] (fun v3 wr => ∃ (i : Nat), i ≤ l.length ∧ i ≤ 41 ∧ v3 = .int .i64 i ∧ wr = w) (fun v _ => l.length - (intOf v).toNat)
      case atStart => exact ⟨0, by omega, by omega, rfl, rfl⟩
      case round =>
        obtain ⟨i, hi, hi2, rfl, rfl⟩ := hrel
        have hcase : (i < l.length ∧ i < 41) ∨ i = l.length ∨ (i < l.length ∧ i = 41) := by omega
        rcases hcase with ⟨hlt, h41⟩ | hend
        · obtain ⟨ad, B, d, rfl, hcell, _, _⟩ := part_at HL.out hlt
          obtain ⟨n, hn⟩ : ∃ n, n = (l.getD i []).length := ⟨_, rfl⟩
          rw [← hn] at hcell
          clear hn
          by_cases h300 : 300 < n
          · by_cases h65 : n ≤ 65535
            · go_wp2_with fail
              refine (alive_calls _).mono ?_
              rintro e w2 ⟨rfl, hb2⟩
              have HB2 := Aside0.mk hb2
              clear hb2
              go_wp2_with fail
              go_ret
              exact ⟨rfl, HB2.out⟩
            · go_wp2_with fail
              refine ⟨⟨i + 1, by omega, by omega, by go_num, trivial⟩, by simp [intOf]; omega⟩
          · go_wp2_with fail
            refine ⟨⟨i + 1, by omega, by omega, by go_num, trivial⟩, by simp [intOf]; omega⟩
        · rcases hend with rfl | ⟨hlt, rfl⟩
          all_goals try (exfalso; omega)
          all_goals
            go_wp2_with fail
            refine (join_calls _ l A c HL.out).mono ?_
            rintro e w1 ⟨x, rfl, ho1, hb1⟩
            have HO1 := Aside0.mk ho1
            have HB1 := Aside0.mk hb1
            have HL1 := Aside0.mk (Kd.C_below HL.out hb1)
            clear ho1 hb1
            go_wp2_with fail
            refine (rjoin_calls _ l A c HL1.out).mono ?_
            rintro e w2 ⟨y, rfl, ho2, hb2⟩
            have HB2 := Aside0.mk (HB1.out.trans (hb2.mono HB1.out.size))
            have HO2 := Aside0.mk (HO1.out.below hb2)
            have HP2 := Aside0.mk ho2
            clear ho2 hb2 HO1 HB1 HL1
            obtain ⟨n, hn⟩ : ∃ n, n = (joinM l).2 := ⟨_, rfl⟩
            rw [← hn]
            clear hn
            go_wp2_with fail
            refine (alive_calls _).mono ?_
            rintro e w3 ⟨rfl, hb3⟩
            have HB3 := Aside0.mk (HB2.out.trans (hb3.mono HB2.out.size))
            have hs1 := (HO2.out.below hb3).string
            have hs2 := (HP2.out.below hb3).string
            obtain ⟨S, hS⟩ : ∃ S, S = strOfNums (joinM l).1 := ⟨_, rfl⟩
            rw [← hS] at hs1 hs2
            clear hS hb3
            go_wp2_with fail
            go_ret
            exact ⟨rfl, HB3.out⟩
end Go.Proofs.Ytdagpeencafheaa.Oct
