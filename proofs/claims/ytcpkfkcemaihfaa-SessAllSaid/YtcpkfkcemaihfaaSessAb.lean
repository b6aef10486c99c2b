import Derived.Test.YtcpkfkcemaihfaaSessAa
/- SessOrder. -/
namespace Go.Proofs.Ytcpkfkcemaihfaa.Oct
open Go.RowKit Go.Proofs.YtcpkfkcemaihfaaW.PrintWords Go.Proofs.Ytcpkfkcemaihfaa.M
set_option linter.unusedVariables false
set_option linter.unusedSimpArgs false
theorem pa_new {w W : World} {s : Int} {n a b p : Nat} (ha : w.heap.size ≤ a) (hab : a < b) (hbp : b < p) (h1 : EndAt W a (newE s n) (fun k => k = a)) (h2 : EndAt W b (newE s n) (fun k => k = b)) (hp : W.heap[p]? = some (.cells #[.pointer (some ⟨a, 0, none⟩), .pointer (some ⟨b, 0, none⟩), .slice none 0 0, .slice none 0 0, .slice none 0 0, .slice none 0 0, .slice none 0 0, .slice none 0 0] 35 (0, 0))) (hb : Below w.heap.size w W) :
    PA w W p (fun k => if k = a then 0 else if k = b then 1 else if k = p then 2 else 9) ⟨fun _ => newE s n, fun _ => [], fun _ => []⟩ := by
  refine ⟨fun i => if i = 0 then a else b, fun _ => .slice none 0 0, fun _ => .slice none 0 0, hp, ?_, fun i hi => ?_, fun r hr => ⟨[], OwnAt.nil _ _ _ _, fun k e => (nomatch e), fun j l h => by simp at h⟩, fun i hi => ⟨[], OwnAt.nil _ _ _ _, fun k e => (nomatch e), fun j l h => by simp at h⟩, fun k hk => ?_, hb⟩
  · show (if p = a then 0 else if p = b then 1 else if p = p then 2 else 9) = 2
    rw [if_neg (by omega), if_neg (by omega), if_pos rfl]
  · rcases (by omega : i = 0 ∨ i = 1) with rfl | rfl
    · exact h1.mono (fun k e _ => if_pos e)
    · exact h2.mono (fun k e _ => by show (if k = a then 0 else if k = b then 1 else if k = p then 2 else 9) = 1; rw [if_neg (by omega), if_pos e])
  · have hk : (if k = a then 0 else if k = b then 1 else if k = p then 2 else 9) < 9 := hk
    split at hk
    · omega
    split at hk
    · omega
    split at hk
    · omega
    · omega
set_option maxRecDepth 200000 in
set_option maxHeartbeats 16000000 in
theorem sorder_calls (w : World) (ses n : Int) (l : List PkT) (t : Bag) (A C : Option Addr) (c d : Nat) (hs : 0 ≤ ses ∧ ses < 4294967296) (hn : -9223372036854775808 ≤ n ∧ n ≤ 9223372036854775807) (hl : pickK.C w A l.length l) (ht : textK.C w C t.length t) (hb : ∀ x ∈ t, Bytes x) :
    Calls Try.prog 6 #[.int .u32 ses, .int .i64 n, .slice A l.length c, .slice C t.length d] w (Yes w) := by
  have HPK := Aside0.mk hl
  have HTX := Aside0.mk ht
  have HBY := Aside0.mk hb
  have hll : l.length ≤ 9223372036854775807 := hl.2.1
  have htl : t.length ≤ 9223372036854775807 := ht.2.1
  clear hl ht hb
  by_cases hbad : ses = 0 ∨ n < 1 ∨ 16 < n
  · have HBAD := Aside0.mk hbad
    clear hbad
    go_enter Try.func6, Try.ntmps6
    go_wp2_with fail
    refine (both_bad _ ses n HBAD.out).mono ?_
    rintro e w1 ⟨rfl, hw1⟩
    have hw1 := hw1.symm
    subst hw1
    go_wp2_with fail
    have HBA : Below w.heap.size w w := Below.refl _ _
    refine (ealive_calls _).mono ?_
    rintro e w9 ⟨rfl, hb9⟩
    have HB9 := Aside0.mk (HBA.trans (hb9.mono HBA.size))
    clear hb9 HBA
    go_wp2_with fail
    go_ret
    exact ⟨rfl, HB9.out⟩
  · obtain ⟨N, rfl⟩ := Int.eq_ofNat_of_zero_le (show 0 ≤ n by omega)
    have HSN : Aside0 ((1 ≤ ses ∧ ses < 4294967296) ∧ (1 ≤ N ∧ N ≤ 16)) := ⟨by omega⟩
    clear hbad hs hn
    have HLG := Aside0.mk (fun W (hW : Below w.heap.size w W) => slong_calls W t C d (Kd.C_below HTX.out hW))
    have hcase : longT t = true ∨ longT t = false := by cases longT t <;> simp
    rcases hcase with hg | hg
    all_goals
      rw [hg] at HLG
      clear hg
      go_enter Try.func6, Try.ntmps6
      go_wp2_with fail
      refine (both_good _ ses N HSN.out.1 HSN.out.2).mono ?_
      rintro e w1 ⟨a, b, p, rfl, ha, hab, hbp, he1, he2, hp, hb1⟩
      have HB1 := Aside0.mk hb1
      have HP1 := Aside0.mk (pa_new (s := ses) (n := N) ha hab hbp he1 he2 hp hb1)
      have HIV := Aside0.mk (pinv_new HSN.out.1 HSN.out.2)
      clear ha hab hbp he1 he2 hp hb1
      go_wp2_with fail
      refine (HLG.out _ HB1.out).mono ?_
      rintro e w2 ⟨rfl, hw2⟩
      have hw2 := hw2.symm
      subst hw2
      go_wp2_with fail
      first
      | (refine (ealive_calls _).mono ?_
         rintro e w9 ⟨rfl, hb9⟩
         have HB9 := Aside0.mk (HB1.out.trans (hb9.mono HB1.out.size))
         clear hb9
         go_wp2_with fail
         go_ret
         exact ⟨rfl, HB9.out⟩)
      | skip
    refine (pplay_calls w _ p _ _ ses l t A C c d HP1.out HIV.out (fun i hi => ⟨rfl, rfl⟩) HPK.out HTX.out HBY.out).mono ?_
    rintro e wz ⟨rfl, o2, st, hpa, hinv, hle⟩
    have HPR := Aside0.mk hpa
    have HI := Aside0.mk hinv
    have HLE := Aside0.mk hle
    clear hpa hinv hle HP1 HIV HB1 HLG
    have HBF : Aside0 (Below w.heap.size w wz) := ⟨by obtain ⟨_, _, _, h⟩ := HPR.out; exact h.below⟩
    go_wp2_with fail
    refine (ealive_calls _).mono ?_
    rintro e w9 ⟨rfl, hb9⟩
    have HB9 := Aside0.mk (HBF.out.trans (hb9.mono HBF.out.size))
    clear hb9
    go_wp2_with fail
    go_ret
    exact ⟨rfl, HB9.out⟩
end Go.Proofs.Ytcpkfkcemaihfaa.Oct
