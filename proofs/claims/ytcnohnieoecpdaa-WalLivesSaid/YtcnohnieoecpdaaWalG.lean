import Derived.Test.YtcnohnieoecpdaaWalE
/- Rows of records that are read: one of them, 'great', 'Same'. -/
namespace Go.Proofs.Ytcnohnieoecpdaa.Oct
open Go.RowKit Go.Proofs.YtcnohnieoecpdaaW.PrintWords Go.Proofs.Ytcnohnieoecpdaa.M
set_option linter.unusedVariables false
set_option linter.unusedSimpArgs false
/-- a field's address behind an element's -/
theorem add_lit_add (a : Addr) (i j : Nat) : a.add (i + (j + 1)) = ⟨(a.add i).block, (a.add i).off + (j + 1), none⟩ := by
  rw [← Rd.addr_add_add]
  exact if_neg (Nat.succ_ne_zero j)
theorem rec_at {W : World} {A : Option Addr} {n : Nat} {l : List Rc} (h : recK.C W A n l) {k : Nat} (hk : k < n) (z : Rc) :
    ∃ ad B c, A = some ad ∧ W.cell? (ad.add (k * 2)) = some (.int .i64 (l.getD k z).1) ∧ W.cell? ⟨(ad.add (k * 2)).block, (ad.add (k * 2)).off + 1, none⟩ = some (.slice B (l.getD k z).2.length c) ∧ (l.getD k z).2.length ≤ c ∧ Kd.C (Kd.int .u8) W B (l.getD k z).2.length (l.getD k z).2 := by
  obtain ⟨ad, c, e, hs, hK, hcell⟩ := Kd.C_get h z (k : Int) (by omega) (by omega)
  simp only [Int.toNat_natCast] at hK hcell
  obtain ⟨c0, c1, rfl, h0, B, cc, rfl, hl, hr⟩ := hK
  have h0' : c0 = [.int .i64 (l.getD k z).1] := h0
  subst h0'
  exact ⟨ad, B, cc, e, hcell 0 _ rfl, (by rw [← add_lit_add]; exact hcell 1 _ rfl), hl, hr⟩
def greatB (l : List Rc) : Bool := decide (20 < l.length) || l.any (fun r => longB r.2.length)
set_option maxHeartbeats 4000000 in
theorem great_calls (w : World) (l : List Rc) (A : Option Addr) (c : Nat) (h : recK.C w A l.length l) (hok : ∀ r ∈ l, RcOk r) :
    Calls Try.prog 18 #[.slice A l.length c] w fun e w' => e = .returned (.bool (greatB l)) ∧ Below w.heap.size w w' := by
  have HL := Aside0.mk h
  have HOK := Aside0.mk hok
  have hll : l.length ≤ 9223372036854775807 := h.2.1
  have hG : greatB l = (decide (20 < l.length) || l.any (fun r => longB r.2.length)) := rfl
  obtain ⟨g, hg⟩ : ∃ g, g = greatB l := ⟨_, rfl⟩
  rw [← hg] at hG ⊢
  have HG := Aside0.mk hG
  clear h hok hg hG
  by_cases h20 : 20 < (l.length : Int)
  · have HR : Aside0 (g = true) := ⟨by rw [HG.out]; simp; omega⟩
    go_enter Try.func18, Try.ntmps18
    go_wp2_with fail
    go_ret
    rw [HR.out]
    exact ⟨rfl, Below.refl _ _⟩
  · go_enter Try.func18, Try.ntmps18
    go_wp2_with fail
    go_loopw [3] (fun v3 wr => ∃ i : Nat, i ≤ l.length ∧ v3 = .int .i64 i ∧ Aside0 (Below w.heap.size w wr) ∧ Aside0 (∀ j, j < i → longB (l.getD j (0, [])).2.length = false)) (fun v _ => l.length - (intOf v).toNat)
    case atStart => exact ⟨0, by omega, rfl, ⟨Below.refl _ _⟩, ⟨fun j hj => by omega⟩⟩
    case round =>
      obtain ⟨i, hi, rfl, HB, HN⟩ := hrel
      by_cases hlt : i < l.length
      · obtain ⟨ad, B, c1, rfl, k0, k1, hcap, hrd⟩ := rec_at (Kd.C_below HL.out HB.out) hlt (0, [])
        have HM : Aside0 (l.getD i (0, []) ∈ l) := ⟨by rw [List.getD_eq_getElem?_getD, List.getElem?_eq_getElem hlt]; exact List.getElem_mem hlt⟩
        have HOI := Aside0.mk (HOK.out _ HM.out)
        obtain ⟨o, ho⟩ : ∃ o, o = l.getD i (0, []) := ⟨_, rfl⟩
        rw [← ho] at k0 k1 hcap HOI hrd HM
        have HO := Aside0.mk ho
        clear ho
        have hlt' : (i : Int) < (l.length : Int) := by omega
        cases hlb : longB o.2.length with
        | true =>
          have HR : Aside0 (g = true) := ⟨by rw [HG.out, Bool.or_eq_true]; exact .inr (List.any_eq_true.2 ⟨o, HM.out, hlb⟩)⟩
          clear hcap hrd hlt
          go_wp2_with fail
          refine (long_calls _ o.1 B o.2.length c1 HOI.out.2.2).mono ?_
          rw [hlb]
          rintro e w1 ⟨rfl, hb1⟩
          have HB1 := Aside0.mk (HB.out.trans (hb1.mono HB.out.size))
          clear hb1 k0 k1
          go_wp2_with fail
          go_ret
          rw [HR.out]
          exact ⟨rfl, HB1.out⟩
        | false =>
          clear hcap hrd
          go_wp2_with fail
          refine (long_calls _ o.1 B o.2.length c1 HOI.out.2.2).mono ?_
          rw [hlb]
          rintro e w1 ⟨rfl, hb1⟩
          have HB1 := Aside0.mk (HB.out.trans (hb1.mono HB.out.size))
          have HN1 : Aside0 (∀ j, j < i + 1 → longB (l.getD j (0, [])).2.length = false) := ⟨fun j hj => by
            rcases Nat.lt_or_ge j i with h | h
            · exact HN.out j h
            · obtain rfl : j = i := by omega
              rw [← HO.out]
              exact hlb⟩
          clear hb1 k0 k1
          go_wp2_with fail
          refine ⟨⟨i + 1, by omega, by go_num, HB1, HN1⟩, by simp [intOf]; omega⟩
      · have hlt' : ¬ (i : Int) < (l.length : Int) := by omega
        have HR : Aside0 (g = false) := ⟨by
          rw [HG.out, Bool.or_eq_false_iff]
          refine ⟨by simp; omega, List.any_eq_false.2 fun x hx => ?_⟩
          obtain ⟨j, hj, e⟩ := List.mem_iff_getElem.1 hx
          have := HN.out j (by omega)
          rw [List.getD_eq_getElem?_getD, List.getElem?_eq_getElem hj] at this
          rw [← e]
          simpa using this⟩
        clear hlt
        go_wp2_with fail
        go_ret
        rw [HR.out]
        exact ⟨rfl, HB.out⟩
theorem str_toList (xs : List Int) : (strOfNums xs).toList = xs.map fun n => UInt8.ofNat n.toNat := by
  rw [ByteArray.toList_eq]
  rfl
theorem str_back {xs : List Int} (h : Bytes xs) : (xs.map fun n => UInt8.ofNat n.toNat).map (fun b => (b.toNat : Int)) = xs := by
  rw [List.map_map]
  conv => rhs; rw [← List.map_id xs]
  apply List.map_congr_left
  intro y hy
  have := h y hy
  unfold Byte at this
  have h2 : y.toNat < 256 := by omega
  simp [Nat.mod_eq_of_lt h2]
  omega
theorem str_inj {xs ys : List Int} (hx : Bytes xs) (hy : Bytes ys) (h : (strOfNums xs).toList = (strOfNums ys).toList) : xs = ys := by
  rw [str_toList, str_toList] at h
  have := congrArg (List.map fun b : UInt8 => (b.toNat : Int)) h
  rwa [str_back hx, str_back hy] at this
def sameB (a b : List Rc) : Bool := decide (a = b)
set_option maxHeartbeats 4000000 in
theorem same_calls (w : World) (a b : List Rc) (A B : Option Addr) (c d : Nat) (ha : recK.C w A a.length a) (hb : recK.C w B b.length b) (ga : ∀ r ∈ a, Bytes r.2) (gb : ∀ r ∈ b, Bytes r.2) :
    Calls Try.prog 17 #[.slice A a.length c, .slice B b.length d] w fun e w' => e = .returned (.bool (sameB a b)) ∧ Below w.heap.size w w' := by
  have HA := Aside0.mk ha
  have HB := Aside0.mk hb
  have GA := Aside0.mk ga
  have GB := Aside0.mk gb
  have hla : a.length ≤ 9223372036854775807 := ha.2.1
  have hlb : b.length ≤ 9223372036854775807 := hb.2.1
  have HS : Aside0 (sameB a b = decide (a = b)) := ⟨rfl⟩
  obtain ⟨g, hg⟩ : ∃ g, g = sameB a b := ⟨_, rfl⟩
  rw [← hg] at HS ⊢
  clear ha hb ga gb hg
  by_cases hl : a.length = b.length
  · have HAB := Aside0.mk hl
    have hne : ((a.length : Int) != (b.length : Int)) = false := by simp; omega
    go_enter Try.func17, Try.ntmps17
    go_wp2_with fail
    go_loopw [5] (fun v5 wr => ∃ i : Nat, i ≤ a.length ∧ v5 = .int .i64 i ∧ Aside0 (Below w.heap.size w wr) ∧ Aside0 (∀ j, j < i → a.getD j (0, []) = b.getD j (0, []))) (fun v _ => a.length - (intOf v).toNat)
    case atStart => exact ⟨0, by omega, rfl, ⟨Below.refl _ _⟩, ⟨fun j hj => by omega⟩⟩
    case round =>
      obtain ⟨i, hi, rfl, HBW, HN⟩ := hrel
      by_cases hlt : i < a.length
      · obtain ⟨ad, A1, c1, rfl, k0, k1, hcap, hrd⟩ := rec_at (Kd.C_below HA.out HBW.out) hlt (0, [])
        obtain ⟨bd, B1, d1, rfl, m0, m1, hcap2, hrd2⟩ := rec_at (Kd.C_below HB.out HBW.out) (show i < b.length by omega) (0, [])
        have HMA := Aside0.mk (GA.out (a.getD i (0, [])) (by rw [List.getD_eq_getElem?_getD, List.getElem?_eq_getElem hlt]; exact List.getElem_mem hlt))
        have HMB := Aside0.mk (GB.out (b.getD i (0, [])) (by rw [List.getD_eq_getElem?_getD, List.getElem?_eq_getElem (show i < b.length by omega)]; exact List.getElem_mem _))
        have HNE : Aside0 (a.getD i (0, []) ≠ b.getD i (0, []) → g = false) := ⟨fun h => by rw [HS.out]; exact decide_eq_false (fun e => h (by rw [e]))⟩
        obtain ⟨x, hx⟩ : ∃ x, x = a.getD i (0, []) := ⟨_, rfl⟩
        obtain ⟨y, hy⟩ : ∃ y, y = b.getD i (0, []) := ⟨_, rfl⟩
        rw [← hx] at k0 k1 hrd HMA HNE
        rw [← hy] at m0 m1 hrd2 HMB HNE
        have HXY := Aside0.mk (And.intro hx hy)
        obtain ⟨xk, xb⟩ := x
        obtain ⟨yk, yb⟩ := y
        dsimp only at k0 k1 m0 m1 hrd hrd2 HMA HMB
        have HRD := Aside0.mk hrd
        have HRD2 := Aside0.mk hrd2
        obtain ⟨S1, hS1⟩ : ∃ S1, S1 = strOfNums xb := ⟨_, rfl⟩
        obtain ⟨S2, hS2⟩ : ∃ S2, S2 = strOfNums yb := ⟨_, rfl⟩
        have cv1 : ∀ m, (convert 22 9 (.slice A1 xb.length c1)).run Try.prog (wr.drewN m) = .ok (.string S1) (wr.drewN m) := fun m => by rw [hS1]; exact Kd.C_string Try.underlying22 Try.underlying5 Try.underlying9 (Kd.C_drewN HRD.out m)
        have cv2 : ∀ m, (convert 22 9 (.slice B1 yb.length d1)).run Try.prog (wr.drewN m) = .ok (.string S2) (wr.drewN m) := fun m => by rw [hS2]; exact Kd.C_string Try.underlying22 Try.underlying5 Try.underlying9 (Kd.C_drewN HRD2.out m)
        have HI : Aside0 (S1.toList = S2.toList → xb = yb) := ⟨fun h => by rw [hS1, hS2] at h; exact str_inj HMA.out HMB.out h⟩
        have HID : Aside0 (xb = yb → S1.toList = S2.toList) := ⟨fun h => by rw [hS1, hS2, h]⟩
        have hlt' : (i : Int) < (a.length : Int) := by omega
        have hlt2 : (i : Int) < (b.length : Int) := by omega
        clear hx hy hcap hcap2 hrd hrd2 hS1 hS2
        by_cases h1 : xk = yk
        · have n1 : (xk != yk) = false := by simp [h1]
          by_cases h2 : xb = yb
          · have n2 : (S1.toList == S2.toList) = true := by simpa using HID.out h2
            have HN1 : Aside0 (∀ j, j < i + 1 → a.getD j (0, []) = b.getD j (0, [])) := ⟨fun j hj => by
              rcases Nat.lt_or_ge j i with h | h
              · exact HN.out j h
              · obtain rfl : j = i := by omega
                rw [← HXY.out.1, ← HXY.out.2, h1, h2]⟩
            clear h1 h2
            go_wp2_with fail
            go_quiet (fail)
            have HBW2 : Aside0 (Below w.heap.size w (wr.drewN nq)) := ⟨pw_below_drewN HBW.out _⟩
            go_wp2_with fail
            refine ⟨⟨i + 1, by omega, by go_num, HBW2, HN1⟩, by simp [intOf]; omega⟩
          · have n2 : (S1.toList == S2.toList) = false := beq_eq_false_iff_ne.2 (fun e => h2 (HI.out e))
            have HR : Aside0 (g = false) := ⟨HNE.out (fun e => h2 (by injection e))⟩
            clear h1 h2
            go_wp2_with fail
            go_quiet (fail)
            have HBW2 : Aside0 (Below w.heap.size w (wr.drewN nq)) := ⟨pw_below_drewN HBW.out _⟩
            go_wp2_with fail
            go_ret
            rw [HR.out]
            exact ⟨rfl, HBW2.out⟩
        · have n1 : (xk != yk) = true := by simpa using h1
          have HR : Aside0 (g = false) := ⟨HNE.out (fun e => h1 (by injection e))⟩
          clear h1
          go_wp2_with fail
          go_quiet (fail)
          have HBW2 : Aside0 (Below w.heap.size w (wr.drewN nq)) := ⟨pw_below_drewN HBW.out _⟩
          go_wp2_with fail
          go_ret
          rw [HR.out]
          exact ⟨rfl, HBW2.out⟩
      · have hlt' : ¬ (i : Int) < (a.length : Int) := by omega
        have HR : Aside0 (g = true) := ⟨by
          rw [HS.out]
          refine decide_eq_true (List.ext_getElem HAB.out (fun j h1 h2 => ?_))
          have := HN.out j (by omega)
          rw [List.getD_eq_getElem?_getD, List.getD_eq_getElem?_getD, List.getElem?_eq_getElem h1, List.getElem?_eq_getElem h2] at this
          simpa using this⟩
        clear hlt
        go_wp2_with fail
        go_ret
        rw [HR.out]
        exact ⟨rfl, HBW.out⟩
  · have hne : ((a.length : Int) != (b.length : Int)) = true := by simp; omega
    have HR : Aside0 (g = false) := ⟨by rw [HS.out]; exact decide_eq_false (fun e => hl (by rw [e]))⟩
    go_enter Try.func17, Try.ntmps17
    go_wp2_with fail
    go_ret
    rw [HR.out]
    exact ⟨rfl, Below.refl _ _⟩
end Go.Proofs.Ytcnohnieoecpdaa.Oct
