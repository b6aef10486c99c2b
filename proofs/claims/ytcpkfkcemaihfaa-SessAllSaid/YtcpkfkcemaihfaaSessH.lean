import Derived.Test.YtcpkfkcemaihfaaSessG
/- both, long. -/
namespace Go.Proofs.Ytcpkfkcemaihfaa.Oct
open Go.RowKit Go.Proofs.YtcpkfkcemaihfaaW.PrintWords Go.Proofs.Ytcpkfkcemaihfaa.M
set_option linter.unusedVariables false
set_option linter.unusedSimpArgs false
theorem both_bad (w : World) (s n : Int) (h : s = 0 ∨ n < 1 ∨ 16 < n) : Calls Try.prog 9 #[.int .u32 s, .int .i64 n] w fun e w' => e = .returned (.pointer none) ∧ w' = w := by
  have HH := Aside0.mk h
  clear h
  go_enter Try.func9, Try.ntmps9
  go_wp2_with (go_at_call 16; refine (enew_bad _ s n HH.out).mono ?_; rintro e w' ⟨rfl, hw'⟩; have hw' := hw'.symm; subst hw')
  go_ret
  exact ⟨rfl, rfl⟩
abbrev nil6 : List Value := [.slice none 0 0, .slice none 0 0, .slice none 0 0, .slice none 0 0, .slice none 0 0, .slice none 0 0]
theorem both_good (w : World) (s : Int) (n : Nat) (hs : 1 ≤ s ∧ s < 4294967296) (hn : 1 ≤ n ∧ n ≤ 16) : Calls Try.prog 9 #[.int .u32 s, .int .i64 n] w fun e w' => ∃ a b p, e = .returned (.pointer (some ⟨p, 0, none⟩)) ∧ w.heap.size ≤ a ∧ a < b ∧ b < p ∧ EndAt w' a (newE s n) (fun k => k = a) ∧ EndAt w' b (newE s n) (fun k => k = b) ∧ w'.heap[p]? = some (.cells #[.pointer (some ⟨a, 0, none⟩), .pointer (some ⟨b, 0, none⟩), .slice none 0 0, .slice none 0 0, .slice none 0 0, .slice none 0 0, .slice none 0 0, .slice none 0 0] 35 (0, 0)) ∧ Below w.heap.size w w' := by
  have HS := Aside0.mk hs
  have HN := Aside0.mk hn
  clear hs hn
  go_enter Try.func9, Try.ntmps9
  go_wp2_with fail
  refine (enew_good _ s n HS.out HN.out).mono ?_
  rintro e w1 ⟨rfl, ht1, hb1⟩
  have HT1 := Aside0.mk ht1
  have HB1 := Aside0.mk hb1
  clear ht1 hb1
  go_wp2_with fail
  refine (enew_good _ s n HS.out HN.out).mono ?_
  rintro e w2 ⟨rfl, ht2, hb2⟩
  have HT12 := Aside0.mk (HT1.out.below hb2)
  have HT2 := Aside0.mk ht2
  have HB2 := Aside0.mk (HB1.out.trans (hb2.mono HB1.out.size))
  have HLT : Aside0 (w.heap.size < w1.heap.size ∧ w1.heap.size < w2.heap.size) := ⟨HT1.out.is.1, ht2.is.1⟩
  clear ht2 hb2
  go_wp2_with fail
  go_ret
  exact ⟨w.heap.size, w1.heap.size, w2.heap.size, rfl, Nat.le_refl _, HLT.out.1, HLT.out.2, HT12.out.below (below_alloc (Below.refl _ _) _), HT2.out.below (below_alloc (Below.refl _ _) _), heap_alloc_new w2 _, below_alloc HB2.out _⟩
abbrev textK : Kd (List Int) := Kd.slice 5 (Kd.int .u8)
theorem text_at {W : World} {A : Option Addr} {n : Nat} {l : Bag} (h : textK.C W A n l) {k : Nat} (hk : k < n) :
    ∃ ad B c, A = some ad ∧ W.cell? (ad.add k) = some (.slice B (l.getD k []).length c) ∧ (l.getD k []).length ≤ c ∧ Kd.C (Kd.int .u8) W B (l.getD k []).length (l.getD k []) := by
  obtain ⟨ad, c, e, hs, hK, hcell⟩ := Kd.C_get h [] (k : Int) (by omega) (by omega)
  simp only [Int.toNat_natCast] at hK hcell
  obtain ⟨B, cc, rfl, hl, hr⟩ := hK
  have := hcell 0 _ rfl
  rw [Nat.add_zero, show k * textK.sz = k from Nat.mul_one k] at this
  exact ⟨ad, B, cc, e, this, hl, hr⟩
def longT (l : Bag) : Bool := decide (80 < l.length) || l.any (fun t => decide (300 < t.length))
theorem longT_no {l : Bag} (h : longT l = false) : l.length ≤ 80 ∧ ∀ t ∈ l, t.length ≤ 300 := by
  unfold longT at h
  rw [Bool.or_eq_false_iff] at h
  refine ⟨by simpa using h.1, fun t ht => ?_⟩
  have := List.any_eq_false.1 h.2 t ht
  simpa using this
set_option maxHeartbeats 4000000 in
theorem slong_calls (w : World) (l : Bag) (A : Option Addr) (c : Nat) (h : textK.C w A l.length l) :
    Calls Try.prog 10 #[.slice A l.length c] w fun e w' => e = .returned (.bool (longT l)) ∧ w' = w := by
  have HL := Aside0.mk h
  have hll : l.length ≤ 9223372036854775807 := h.2.1
  have hG : longT l = (decide (80 < l.length) || l.any (fun t => decide (300 < t.length))) := rfl
  obtain ⟨g, hg⟩ : ∃ g, g = longT l := ⟨_, rfl⟩
  rw [← hg] at hG ⊢
  have HG := Aside0.mk hG
  clear h hg hG
  by_cases h20 : 80 < (l.length : Int)
  · have HR : Aside0 (g = true) := ⟨by rw [HG.out]; simp; omega⟩
    go_enter Try.func10, Try.ntmps10
    go_wp2_with fail
    go_ret
    rw [HR.out]
    exact ⟨rfl, rfl⟩
  · go_enter Try.func10, Try.ntmps10
    go_wp2_with fail
    go_loopw [3] (fun v3 wr => ∃ i : Nat, i ≤ l.length ∧ v3 = .int .i64 i ∧ Aside0 (w = wr) ∧ Aside0 (∀ j, j < i → (l.getD j []).length ≤ 300)) (fun v _ => l.length - (intOf v).toNat)
    case atStart => exact ⟨0, by omega, rfl, ⟨rfl⟩, ⟨fun j hj => by omega⟩⟩
    case round =>
      obtain ⟨i, hi, rfl, HW, HN⟩ := hrel
      by_cases hlt : i < l.length
      · have hC := HL.out
        rw [HW.out] at hC
        obtain ⟨ad, B, c1, rfl, k0, hcap, hrd⟩ := text_at hC hlt
        have HM : Aside0 (l.getD i [] ∈ l) := ⟨by rw [List.getD_eq_getElem?_getD, List.getElem?_eq_getElem hlt]; exact List.getElem_mem hlt⟩
        have hL9 := hrd.2.1
        obtain ⟨o, ho⟩ : ∃ o, o = l.getD i [] := ⟨_, rfl⟩
        rw [← ho] at k0 HM hL9
        have HO := Aside0.mk ho
        have hlt' : (i : Int) < (l.length : Int) := by omega
        clear ho hcap hrd hC
        by_cases h3 : 300 < (o.length : Int)
        · have HR : Aside0 (g = true) := ⟨by rw [HG.out, Bool.or_eq_true]; exact .inr (List.any_eq_true.2 ⟨o, HM.out, by simp; omega⟩)⟩
          go_wp2_with fail
          go_ret
          rw [HR.out]
          exact ⟨rfl, HW.out.symm⟩
        · have HN1 : Aside0 (∀ j, j < i + 1 → (l.getD j []).length ≤ 300) := ⟨fun j hj => by
            rcases Nat.lt_or_ge j i with h | h
            · exact HN.out j h
            · obtain rfl : j = i := by omega
              rw [← HO.out]
              omega⟩
          go_wp2_with fail
          refine ⟨⟨i + 1, by omega, by go_num, HW, HN1⟩, by simp [intOf]; omega⟩
      · have hlt' : ¬ (i : Int) < (l.length : Int) := by omega
        have HR : Aside0 (g = false) := ⟨by
          rw [HG.out, Bool.or_eq_false_iff]
          refine ⟨by simp; omega, List.any_eq_false.2 fun x hx => ?_⟩
          obtain ⟨j, hj, e⟩ := List.mem_iff_getElem.1 hx
          have := HN.out j (by omega)
          rw [List.getD_eq_getElem?_getD, List.getElem?_eq_getElem hj] at this
          rw [← e]
          simpa using this⟩
        clear hlt
        go_wp2_with fail
        go_ret
        rw [HR.out]
        exact ⟨rfl, HW.out.symm⟩
end Go.Proofs.Ytcpkfkcemaihfaa.Oct
