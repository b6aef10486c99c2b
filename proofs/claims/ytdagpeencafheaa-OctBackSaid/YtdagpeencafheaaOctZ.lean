import Derived.Test.YtdagpeencafheaaOctY
/- OctBack. -/
namespace Go.Proofs.Ytdagpeencafheaa.Oct
open Go.RowKit Go.Proofs.YtdagpeencafheaaW.PrintWords Go.Proofs.Ytdagpeencafheaa.M
set_option linter.unusedVariables false
set_option linter.unusedSimpArgs false
theorem str_size (xs : List Int) : (strOfNums xs).size = xs.length := by
  rw [← ByteArray.size_data]
  simp [strOfNums]
theorem bytesOf_str {xs : List Int} (h : Bytes xs) : bytesOf (strOfNums xs) = xs := by
  have e : bytesOf (strOfNums xs) = xs.map fun n => (((UInt8.ofNat n.toNat).toNat : Nat) : Int) := by simp [bytesOf, strOfNums]
  rw [e]
  conv => rhs; rw [← List.map_id xs]
  apply List.map_congr_left
  intro y hy
  have := h y hy
  unfold Byte at this
  have h2 : y.toNat < 256 := by omega
  simp [Nat.mod_eq_of_lt h2]
  omega
theorem OB.cap_le {W : World} {base n c : Nat} {A : Option Addr} {xs : List Int} (h : OB W base (.slice A n c) xs) : xs.length ≤ c := by
  rcases h.2 with ⟨e, h0⟩ | ⟨g, cap, cur, e, _, _, hcap, _⟩
  · injection e with _ e1 e2; omega
  · injection e with _ e1 e2; omega
theorem take_next (l : List (List Int)) (i : Nat) (h : i < l.length) : l.getD i [] ∈ l.take (i + 1) ∧ ∀ p ∈ l.take (i + 1), p ∈ l.take i ∨ p = l.getD i [] := by
  have e : l.getD i [] = l[i] := by rw [List.getD_eq_getElem?_getD, List.getElem?_eq_getElem h]; rfl
  have e2 : l.take (i + 1) = l.take i ++ [l[i]] := List.take_succ_eq_append_getElem h
  rw [e, e2]
  exact ⟨List.mem_append.2 (.inr (List.mem_singleton.2 rfl)), fun p hp => (List.mem_append.1 hp).imp id (fun h => List.mem_singleton.1 h)⟩
set_option maxHeartbeats 8000000 in
theorem back_calls (w : World) (v : Int) (l : List (List Int)) (A : Option Addr) (c : Nat) (b : List Int) (B : Option Addr) (d : Nat) (hv0 : 0 ≤ v) (hv : v < 18446744073709551616) (h : partK.C w A l.length l) (hlb : ∀ p ∈ l, Bytes p) (hr : Kd.C (Kd.int .u8) w B b.length b) (hx : Bytes b) :
    Calls Try.prog 11 #[.int .u64 v, .slice A l.length c, .slice B b.length d] w (Yes w) := by
  have HL := Aside0.mk h
  have HR := Aside0.mk hr
  have HX := Aside0.mk hx
  have HLB := Aside0.mk hlb
  have hll : l.length ≤ 9223372036854775807 := h.2.1
  have hl : b.length ≤ 9223372036854775807 := hr.2.1
  clear h hr hx hlb
  have hg : 40 < (l.length : Int) ∨ (¬ 40 < (l.length : Int) ∧ 2000 < (b.length : Int)) ∨ (¬ 40 < (l.length : Int) ∧ ¬ 2000 < (b.length : Int)) := by omega
  rcases hg with h1 | ⟨h1, h2⟩ | ⟨h1, h2⟩
  · go_enter Try.func11, Try.ntmps11
    go_wp2_with fail
    refine (alive_calls _).mono ?_
    rintro e w3 ⟨rfl, hb3⟩
    have HB3 := Aside0.mk hb3
    clear hb3
    go_wp2_with fail
    go_ret
    exact ⟨rfl, HB3.out⟩
  · go_enter Try.func11, Try.ntmps11
    go_wp2_with fail
    refine (alive_calls _).mono ?_
    rintro e w3 ⟨rfl, hb3⟩
    have HB3 := Aside0.mk hb3
    clear hb3
    go_wp2_with fail
    go_ret
    exact ⟨rfl, HB3.out⟩
  · have h40 : (l.length : Int) ≤ 40 := by omega
    have h2000 : (b.length : Int) ≤ 2000 := by omega
    have HN : Aside0 (l.length ≤ 40 ∧ b.length ≤ 2000) := ⟨by omega⟩
    have HPB := Aside0.mk (put_back hv0 hv)
    have HUH := Aside0.mk (unhex_hex HX.out)
    have HHB := Aside0.mk (hexB_bytes HX.out)
    have HHL := Aside0.mk (hexB_length b)
    clear h1 h2
    go_enter Try.func11, Try.ntmps11
    go_wp2_with fail
    go_loopw [7] (fun v7 wr => ∃ (i : Nat), i ≤ l.length ∧ v7 = .int .i64 i ∧ wr = w ∧ Aside0 (∀ p ∈ l.take i, p.length ≤ 300)) (fun v _ => l.length - (intOf v).toNat)
    case atStart => exact ⟨0, by omega, rfl, rfl, ⟨fun p hp => by simp at hp⟩⟩
    case round =>
      obtain ⟨i, hi, rfl, rfl, HP⟩ := hrel
      by_cases hlt : i < l.length
      · obtain ⟨ad, B1, d1, rfl, hcell, _, _⟩ := part_at HL.out hlt
        have HT : Aside0 (l.getD i [] ∈ l.take (i + 1) ∧ ∀ p ∈ l.take (i + 1), p ∈ l.take i ∨ p = l.getD i []) := ⟨by
          exact take_next l i hlt⟩
        obtain ⟨q, hq⟩ : ∃ q, q = l.getD i [] := ⟨_, rfl⟩
        rw [← hq] at HT hcell
        obtain ⟨n, hn⟩ : ∃ n, n = q.length := ⟨_, rfl⟩
        rw [← hn] at hcell
        have HQN := Aside0.mk hn
        clear hn hq
        by_cases h300 : 300 < (n : Int)
        · go_wp2_with fail
          refine (alive_calls _).mono ?_
          rintro e w2 ⟨rfl, hb2⟩
          have HB2 := Aside0.mk hb2
          clear hb2
          go_wp2_with fail
          go_ret
          exact ⟨rfl, HB2.out⟩
        · have HNN : Aside0 (n ≤ 300) := ⟨by omega⟩
          go_wp2_with fail
          refine ⟨⟨i + 1, by omega, by go_num, by first | rfl | trivial, ⟨fun p hp => ?_⟩⟩, by simp [intOf]; omega⟩
          rcases HT.out.2 p hp with h | h
          · exact HP.out p h
          · rw [h, ← HQN.out]; exact HNN.out
      · obtain rfl : i = l.length := by omega
        have hall := HP.out
        rw [List.take_length] at hall
        have HJB := Aside0.mk (join_back HN.out.1 hall)
        have HJY := Aside0.mk (joinB_bytes (fun p hp => ⟨HLB.out p hp, by have := hall p hp; omega⟩))
        have HJL : Aside0 ((joinB l).length ≤ 1000000) := ⟨by
          have h4 := HN.out.1
          have : ∀ (m : Nat) (l' : List (List Int)), l'.length ≤ m → (∀ p ∈ l', p.length ≤ 300) → (joinB l').length ≤ m * 302 := by
            intro m
            induction m with
            | zero =>
              intro l' h _
              have : l' = [] := List.eq_nil_of_length_eq_zero (by omega)
              subst this
              simp [joinB]
            | succ m ih =>
              intro l' h hp
              match l', h, hp with
              | [], _, _ => simp [joinB]
              | p :: l', h, hp =>
                have h1 := ih l' (by simp at h; omega) (fun q hq => hp q (by simp [hq]))
                have h2 := hp p (by simp)
                rw [joinB_cons]
                simp only [List.length_cons, List.length_append]
                omega
          have := this 40 l (by omega) hall
          omega⟩
        clear hall HP
        go_wp2_with fail
        refine (put_calls _ v 8 hv0 hv).mono ?_
        rintro e w1 ⟨r1, hr1, ho1, hb1⟩
        rw [HPB.out.1] at hr1 ho1
        subst hr1
        obtain ⟨A1, c1, rfl, hC1⟩ := ho1.reads
        have HB1 := Aside0.mk hb1
        have HC1 := Aside0.mk hC1
        have HXB := Aside0.mk (beB_bytes v 8)
        have HPG := Aside0.mk HPB.out.2
        obtain ⟨xb, hxb⟩ : ∃ xb, xb = beB v 8 := ⟨_, rfl⟩
        rw [← hxb] at HC1 HXB HPG ⊢
        clear ho1 hb1 hC1 hxb
        go_wp2_with fail
        refine (get_calls _ A1 c1 xb HC1.out HXB.out).mono ?_
        rw [HPG.out]
        rintro e w1 ⟨rfl, rfl⟩
        go_wp2_with fail
        refine (join_calls _ l A c (Kd.C_below HL.out HB1.out)).mono ?_
        rintro e w2 ⟨r2, hr2, ho2, hb2⟩
        rw [HJB.out.1] at hr2 ho2
        subst hr2
        have ho2 : OB w2 w1.heap.size r2 (joinB l) := ho2
        obtain ⟨A2, c2, rfl, hC2⟩ := ho2.reads
        have HB2 := Aside0.mk (HB1.out.trans (hb2.mono HB1.out.size))
        have HC2 := Aside0.mk hC2
        have HCP2 : Aside0 ((joinB l).length ≤ c2) := ⟨OB.cap_le ho2⟩
        obtain ⟨jb, hjb⟩ : ∃ jb, jb = joinB l := ⟨_, rfl⟩
        rw [← hjb] at HJB HJY HJL HC2 HCP2 ⊢
        clear ho2 hb2 hC2 hjb
        go_wp2_with fail
        refine (split_calls _ jb A2 c2 HCP2.out HC2.out HJY.out HJL.out).mono ?_
        rintro e w3 ⟨r3, hr3, hrw3, hb3⟩
        rw [HJB.out.2.2] at hr3
        rw [HJB.out.2.1] at hrw3
        subst hr3
        obtain ⟨A3, c3, rfl, _⟩ := hrw3.reads
        have hbx := below_alloc (Below.refl w3.heap.size w3) (.cells #[.int .i64 0, .int .i64 0] 42)
        have HRW := Aside0.mk (hrw3.below hbx)
        have HH4 := Aside0.mk (heap_alloc_new w3 (.cells #[.int .i64 0, .int .i64 0] 42))
        have hb23 := HB2.out.trans (hb3.mono HB2.out.size)
        have HB4 := Aside0.mk (hb23.trans (hbx.mono hb23.size))
        clear hrw3 hb3 hbx hb23
        go_wp2_with fail
        obtain ⟨w4, hw4⟩ : ∃ w4, w4 = w3.alloc (.cells #[.int .i64 0, .int .i64 0] 42) := ⟨_, rfl⟩
        rw [← hw4] at HRW HH4 HB4 ⊢
        clear hw4
        refine (hex_calls _ B d b (Kd.C_below HR.out HB4.out) HX.out (by have := HN.out; omega)).mono ?_
        rintro e w5 ⟨rfl, hb5⟩
        have HB5 := Aside0.mk (HB4.out.trans (hb5.mono HB4.out.size))
        have HRW5 := Aside0.mk (HRW.out.below hb5)
        have HH5 := Aside0.mk (blk_keep HH4.out hb5)
        obtain ⟨S, hS⟩ : ∃ S, S = strOfNums (hexB b) := ⟨_, rfl⟩
        have HSS : Aside0 (S.size ≤ 1000000) := ⟨by rw [hS, str_size, HHL.out]; have := HN.out; omega⟩
        have HSU : Aside0 (unhexM (bytesOf S) = (b, 0, 0)) := ⟨by rw [hS, bytesOf_str HHB.out, HUH.out]⟩
        rw [← hS]
        clear hb5 hS
        go_wp2_with fail
        refine (unhex_calls _ S HSS.out).mono ?_
        rintro e w6 ⟨r6, hr6, ho6, hb6⟩
        rw [HSU.out] at hr6 ho6
        subst hr6
        obtain ⟨A6, c6, rfl, _⟩ := ho6.reads
        have hbx := below_alloc (Below.refl w6.heap.size w6) (.cells #[.int .i64 0, .int .i64 0] 42)
        have HO6 := Aside0.mk (ho6.below hbx)
        have HH6 := Aside0.mk (heap_alloc_new w6 (.cells #[.int .i64 0, .int .i64 0] 42))
        have HH7 := Aside0.mk (blk_keep (blk_keep HH5.out hb6) hbx)
        have HRW7 := Aside0.mk ((HRW5.out.below hb6).below hbx)
        have hb56 := HB5.out.trans (hb6.mono HB5.out.size)
        have HB7 := Aside0.mk (hb56.trans (hbx.mono hb56.size))
        clear ho6 hb6 hbx hb56
        go_wp2_with fail
        obtain ⟨w7, hw7⟩ : ∃ w7, w7 = w6.alloc (.cells #[.int .i64 0, .int .i64 0] 42) := ⟨_, rfl⟩
        rw [← hw7] at HO6 HH6 HH7 HRW7 HB7 ⊢
        clear hw7
        refine (alive_calls _).mono ?_
        rintro e w8 ⟨rfl, hb8⟩
        have HB8 := Aside0.mk (HB7.out.trans (hb8.mono HB7.out.size))
        have HO8 := Aside0.mk (HO6.out.below hb8)
        have HH8 := Aside0.mk (blk_keep HH6.out hb8)
        have HH9 := Aside0.mk (blk_keep HH7.out hb8)
        obtain ⟨_, _, ex, hrx⟩ := (HRW7.out.below hb8).reads
        cases ex
        have HRX := Aside0.mk hrx
        obtain ⟨t0, t1, _⟩ := two_cells HH9.out (W' := w8)
        have hvv : (v == v) = true := beq_self_eq_true _
        clear hb8 hrx
        go_wp2_with fail
        refine (same_calls _ l A3 A c3 c HRX.out (Kd.C_below HL.out HB8.out)).mono ?_
        rintro e w9 ⟨rfl, hb9⟩
        have HB9 := Aside0.mk (HB8.out.trans (hb9.mono HB8.out.size))
        obtain ⟨u0, u1, _⟩ := two_cells (blk_keep HH8.out hb9) (W' := w9)
        have s1 := (HO8.out.below hb9).string
        have s2 := C_str (c := d) (Kd.C_below HR.out HB9.out)
        obtain ⟨S2, hS2⟩ : ∃ S2, S2 = strOfNums b := ⟨_, rfl⟩
        rw [← hS2] at s1 s2
        have hE : (S2.toList == S2.toList) = true := beq_self_eq_true _
        clear hb9 hS2 t0 t1
        go_wp2_with fail
        go_ret
        exact ⟨rfl, HB9.out⟩
theorem u64b {n : Int} (h : (Lit.int .u64 n).wf = true) : 0 ≤ n ∧ n < 18446744073709551616 := by
  have := Go.bounds_u64 h
  omega
end Go.Proofs.Ytdagpeencafheaa.Oct
