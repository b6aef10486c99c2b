import Derived.Test.YtdagpeencafheaaOctV
namespace Go.Proofs.Ytdagpeencafheaa.Oct
open Go.RowKit Go.Proofs.YtdagpeencafheaaW.PrintWords Go.Proofs.Ytdagpeencafheaa.M
set_option linter.unusedVariables false
set_option linter.unusedSimpArgs false
theorem take_mid (b : List Int) (i n : Nat) : (b.take (i + n)).drop i = (b.drop i).take n := by
  rw [List.drop_take]; congr 1; omega
/-- behind the two stores of the fault -/
theorem fault_set {W : World} {base p : Nat} {v x y : Value} {ls : List (List Int)} (h : Rows_ W base v ls) (hp : p < base) : Rows_ ((W.setCell ⟨p, 0, none⟩ x).setCell ⟨p, 1, none⟩ y) base v ls :=
  h.move (fun k hk _ => by rw [Below.heap_setCell _ ⟨p, 1, none⟩ _ k (by show k ≠ p; omega), Below.heap_setCell _ ⟨p, 0, none⟩ _ k (by show k ≠ p; omega)])
set_option maxRecDepth 20000 in
set_option maxHeartbeats 4000000 in
theorem rsplit_calls (w : World) (b : List Int) (A : Option Addr) (c : Nat) (hcap : b.length ≤ c) (h : Kd.C (Kd.int .u8) w A b.length b) (hb : Bytes b) (hlen : b.length ≤ 1000000) :
    Calls Try.prog 29 #[.slice A b.length c] w (RetSplit w b) := by
  have HR := Aside0.mk h
  have HX := Aside0.mk hb
  clear h hb
  go_enter Try.func29, Try.ntmps29
  go_wp2
  obtain ⟨w0, hw0⟩ : ∃ w0, w0 = w.alloc (.cells #[.int .i64 0, .int .i64 0] 42) := ⟨_, rfl⟩
  have hz : w0.heap.size = w.heap.size + 1 := by rw [hw0]; simp
  have hbl : w0.heap[w.heap.size]? = some (.cells #[.int .i64 0, .int .i64 0] 42 (0, 0)) := by rw [hw0]; exact heap_alloc_new w _
  have hb0 : Below w.heap.size w w0 := by rw [hw0]; exact below_alloc (Below.refl _ _) _
  rw [← hw0]
  have HZ := Aside0.mk hz
  have HBL := Aside0.mk hbl
  have HB0 := Aside0.mk hb0
  clear hw0 hz hbl hb0
  go_loopw [4, 5, 6, 7, 8] (fun v4 v5 _ _ _ wr => ∃ (i : Nat) (out : List (List Int)), i ≤ b.length ∧ v5 = .int .i64 i ∧ out.length ≤ 1000 ∧ Aside0 (Rows_ wr w0.heap.size v4 out) ∧ Aside0 (Below w0.heap.size w0 wr) ∧ Aside0 (withOut out (splitR i (b.drop i) out.length) = splitM b)) (fun _ v _ _ _ _ => b.length - (intOf v).toNat)
  case atStart => exact ⟨0, [], by omega, rfl, by simp, ⟨Rows_.nil _ _⟩, ⟨Below.refl _ _⟩, ⟨by rw [withOut_nil]; rfl⟩⟩
  case round =>
    obtain ⟨i, out, hi, rfl, hol, HO, HB, HM⟩ := hrel
    have HBW : Aside0 (Below w.heap.size w wr) := ⟨HB0.out.trans (HB.out.mono HB0.out.size)⟩
    have hbl : wr.heap[w.heap.size]? = some (.cells #[.int .i64 0, .int .i64 0] 42 (0, 0)) := by rw [HB.out.block _ (by rw [HZ.out]; omega)]; exact HBL.out
    obtain ⟨c0, c1, f0, f1⟩ := two_cells hbl (W' := wr)
    clear hbl
    obtain ⟨A4, c4, rfl, _⟩ := HO.out.reads
    have hcase : i = b.length ∨ i + 1 = b.length ∨ i + 1 < b.length := by omega
    rcases hcase with rfl | h1 | h1
    · have HE : Aside0 (splitP b = out ∧ splitE b = (0, 0)) := ⟨split_ok (by rw [← HM.out, List.drop_length, splitR_nil]; simp [withOut])⟩
      go_wp2
      refine bodyPost_ret (v := .tuple #[.slice A4 out.length c4, .agg #[.int .i64 0, .int .i64 0]]) (by simp [results, Try.results29, go_sem, c0, c1, f0, f1]) rfl ?_
      exact ⟨_, by rw [HE.out.2], by rw [HE.out.1]; exact (fault_set HO.out (by rw [HZ.out]; omega)).lower HB0.out.size, (HBW.out.setCell (Nat.le_refl _) _).setCell (Nat.le_refl _) _⟩
    · have HE : Aside0 (splitP b = [] ∧ splitE b = ((i : Int), 11)) := ⟨split_err (by rw [← HM.out, drop_one h1, splitR_one]; rfl)⟩
      have h2 : (i : Int) < (b.length : Int) := by omega
      have h3 : IntKind.i64.wrap ((b.length : Int) - (i : Int)) = 1 := by rw [IntWalk.i64_in _ (by omega)]; omega
      have h4 : (b.length : Int) - (i : Int) = 1 := by omega
      clear h1
      go_wp2_with fail
      go_quiet (fail)
      obtain ⟨w2, hw2⟩ : ∃ w2, w2 = wr.drewN nq := ⟨_, rfl⟩
      have HB2 : Aside0 (Below wr.heap.size wr w2) := ⟨by rw [hw2]; exact pw_below_drewN (Below.refl _ _) _⟩
      have HBW2 := Aside0.mk (HBW.out.trans (HB2.out.mono HBW.out.size))
      have HO2 := Aside0.mk (HO.out.below HB2.out)
      have hbl : w2.heap[w.heap.size]? = some (.cells #[.int .i64 0, .int .i64 0] 42 (0, 0)) := by rw [hw2]; show wr.heap[w.heap.size]? = _; rw [HB.out.block _ (by rw [HZ.out]; omega)]; exact HBL.out
      rw [← hw2]
      clear hw2 c0 c1 f0 f1
      obtain ⟨c0, c1, f0, f1⟩ := two_cells hbl (W' := w2)
      clear hbl
      go_wp2_with fail
      refine bodyPost_ret (v := .tuple #[.slice none 0 0, .agg #[.int .i64 i, .int .i64 11]]) (by simp [results, Try.results29, go_sem, c0, c1, f0, f1]) rfl ?_
      exact ⟨_, by rw [HE.out.2], by rw [HE.out.1]; exact Rows_.nil _ _, (HBW2.out.setCell (Nat.le_refl _) _).setCell (Nat.le_refl _) _⟩
    · have h2 : (i : Int) < (b.length : Int) := by omega
      obtain ⟨ad, rfl, hx⟩ := C_byte (Kd.C_below HR.out HBW.out) (show i < b.length by omega)
      obtain ⟨ad', e, hy⟩ := C_byte (Kd.C_below HR.out HBW.out) h1
      cases e
      have hx0 := HX.out.getD i
      have hy0 := HX.out.getD (i + 1)
      have HD := Aside0.mk (drop_two h1)
      obtain ⟨x, hxe⟩ : ∃ x, x = b.getD i 0 := ⟨_, rfl⟩
      obtain ⟨y, hye⟩ : ∃ y, y = b.getD (i + 1) 0 := ⟨_, rfl⟩
      rw [← hxe] at hx hx0 HD
      rw [← hye] at hy hy0 HD
      clear hxe hye
      obtain ⟨hxa, hxb⟩ := hx0
      obtain ⟨hya, hyb⟩ := hy0
      obtain ⟨N, hN⟩ : ∃ N : Nat, (N : Int) = 256 * x + y := ⟨(256 * x + y).toNat, by omega⟩
      have HN : Aside0 ((256 * x + y).toNat = N) := ⟨by omega⟩
      obtain ⟨L, hL⟩ : ∃ L : Nat, L = b.length - i := ⟨_, rfl⟩
      obtain ⟨a1, ha1⟩ : ∃ a1, a1 = i + 1 := ⟨_, rfl⟩
      rw [← ha1] at hy
      have e1 : (i : Int) + 1 = (a1 : Int) := by omega
      have e1' : IntKind.i64.wrap ((i : Int) + 1) = (a1 : Int) := by rw [IntWalk.i64_in _ (by omega)]; omega
      have e2 : (b.length : Int) - (i : Int) = (L : Int) := by omega
      have e2' : IntKind.i64.wrap ((b.length : Int) - (i : Int)) = (L : Int) := by rw [IntWalk.i64_in _ (by omega)]; omega
      have e3 : IntKind.i64.wrap (256 * x) = 256 * x := IntWalk.i64_in _ (by omega)
      have e4 : IntKind.i64.wrap (256 * x + y) = (N : Int) := by rw [IntWalk.i64_in _ (by omega)]; omega
      have e4'' : 256 * x + y = (N : Int) := hN.symm
      have e5 : IntKind.i64.wrap ((L : Int) - 2) = (L : Int) - 2 := IntWalk.i64_in _ (by omega)
      have b1 : (a1 : Int) < (b.length : Int) := by omega
      have b2 : (0 : Int) ≤ (a1 : Int) := by omega
      have b3 : (2 : Int) ≤ (L : Int) := by omega
      have HF := Aside0.mk (And.intro hN (And.intro hL ha1))
      by_cases hs : L < N + 2
      · have HE : Aside0 (splitP b = [] ∧ splitE b = ((i : Int), 11)) := ⟨split_err (by rw [← HM.out, HD.out, splitR_short _ _ _ _ _ (by rw [HN.out, List.length_drop]; omega)]; rfl)⟩
        have h4 : (L : Int) - 2 < (N : Int) := by omega
        clear hs hN hL ha1 h1
        have h5 : (0 : Int) ≤ (i : Int) := by omega
        have h6 : (2 : Int) ≤ (L : Int) := b3
        have h7 : decide ((L : Int) < 2) = false := by simp; omega
        go_wp2_with fail
        go_quiet (fail)
        obtain ⟨w2, hw2⟩ : ∃ w2, w2 = wr.drewN nq := ⟨_, rfl⟩
        have HB2 : Aside0 (Below wr.heap.size wr w2) := ⟨by rw [hw2]; exact pw_below_drewN (Below.refl _ _) _⟩
        have HBW2 := Aside0.mk (HBW.out.trans (HB2.out.mono HBW.out.size))
        have hbl : w2.heap[w.heap.size]? = some (.cells #[.int .i64 0, .int .i64 0] 42 (0, 0)) := by rw [hw2]; show wr.heap[w.heap.size]? = _; rw [HB.out.block _ (by rw [HZ.out]; omega)]; exact HBL.out
        rw [← hw2]
        clear hw2 c0 c1 f0 f1
        obtain ⟨c0, c1, f0, f1⟩ := two_cells hbl (W' := w2)
        clear hbl hx hy
        go_wp2_with fail
        refine bodyPost_ret (v := .tuple #[.slice none 0 0, .agg #[.int .i64 i, .int .i64 11]]) (by simp [results, Try.results29, go_sem, c0, c1, f0, f1]) rfl ?_
        exact ⟨_, by rw [HE.out.2], by rw [HE.out.1]; exact Rows_.nil _ _, (HBW2.out.setCell (Nat.le_refl _) _).setCell (Nat.le_refl _) _⟩
      · have h4 : ¬ (L : Int) - 2 < (N : Int) := by omega
        have h5 : (0 : Int) ≤ (i : Int) := by omega
        have h7 : decide ((L : Int) < 2) = false := by simp; omega
        have hns : ¬ (b.drop (i + 2)).length < N := by rw [List.length_drop]; omega
        by_cases hk : 1000 ≤ out.length
        · have HE : Aside0 (splitP b = [] ∧ splitE b = (0, 2)) := ⟨split_err (by rw [← HM.out, HD.out, splitR_long _ _ _ _ _ (by rw [HN.out]; exact hns) hk]; rfl)⟩
          have hk2 : (1000 : Int) ≤ (out.length : Int) := by omega
          clear hs hN hL ha1 h1 hns hk
          go_wp2_with fail
          go_quiet (fail)
          obtain ⟨w2, hw2⟩ : ∃ w2, w2 = wr.drewN nq := ⟨_, rfl⟩
          have HB2 : Aside0 (Below wr.heap.size wr w2) := ⟨by rw [hw2]; exact pw_below_drewN (Below.refl _ _) _⟩
          have HBW2 := Aside0.mk (HBW.out.trans (HB2.out.mono HBW.out.size))
          have hbl : w2.heap[w.heap.size]? = some (.cells #[.int .i64 0, .int .i64 0] 42 (0, 0)) := by rw [hw2]; show wr.heap[w.heap.size]? = _; rw [HB.out.block _ (by rw [HZ.out]; omega)]; exact HBL.out
          rw [← hw2]
          clear hw2 c0 c1 f0 f1
          obtain ⟨c0, c1, f0, f1⟩ := two_cells hbl (W' := w2)
          clear hbl hx hy
          go_wp2_with fail
          refine bodyPost_ret (v := .tuple #[.slice none 0 0, .agg #[.int .i64 0, .int .i64 2]]) (by simp [results, Try.results29, go_sem, c0, c1, f0, f1]) rfl ?_
          exact ⟨_, by rw [HE.out.2], by rw [HE.out.1]; exact Rows_.nil _ _, (HBW2.out.setCell (Nat.le_refl _) _).setCell (Nat.le_refl _) _⟩
        · have hk2 : (out.length : Int) < 1000 := by omega
          have HNS := Aside0.mk hns
          have HSS := Aside0.mk hs
          have H1 := Aside0.mk h1
          clear hs hN hL ha1 h1 hns hk
          go_wp2_with fail
          go_quiet (fail)
          obtain ⟨w2, hw2⟩ : ∃ w2, w2 = wr.drewN nq := ⟨_, rfl⟩
          have HB2 : Aside0 (Below wr.heap.size wr w2) := ⟨by rw [hw2]; exact pw_below_drewN (Below.refl _ _) _⟩
          have hx2 := (HB2.out.cell (World.block_lt_of_cell? _ _ hx)).trans hx
          have hy2 := (HB2.out.cell (World.block_lt_of_cell? _ _ hy)).trans hy
          rw [← hw2]
          clear hw2 c0 c1 f0 f1 hx hy
          go_wp2_with fail
          go_quiet (fail)
          obtain ⟨w3, hw3⟩ : ∃ w3, w3 = w2.drewN nq := ⟨_, rfl⟩
          have HB3 : Aside0 (Below w0.heap.size w0 w3) := ⟨by rw [hw3]; exact (HB.out.trans (HB2.out.mono HB.out.size)).trans (pw_below_drewN ((Below.refl _ _).mono (Nat.le_trans HB.out.size HB2.out.size)) _)⟩
          have HO3 : Aside0 (Rows_ w3 w0.heap.size (.slice A4 out.length c4) out) := ⟨by rw [hw3]; exact (HO.out.below HB2.out).below (pw_below_drewN (Below.refl _ _) _)⟩
          rw [← hw3]
          clear hw3 hx2 hy2
          obtain ⟨a2, ha2⟩ : ∃ a2, a2 = i + 2 := ⟨_, rfl⟩
          obtain ⟨a3, ha3⟩ : ∃ a3, a3 = a2 + N := ⟨_, rfl⟩
          have g1 : (i : Int) + 2 = (a2 : Int) := by omega
          have g2 : IntKind.i64.wrap ((i : Int) + 2) = (a2 : Int) := by rw [IntWalk.i64_in _ (by omega)]; omega
          have g3 : (a2 : Int) + (N : Int) = (a3 : Int) := by omega
          have g4 : IntKind.i64.wrap ((a2 : Int) + (N : Int)) = (a3 : Int) := by rw [IntWalk.i64_in _ (by have := HF.out.2.1; have := HSS.out; have := H1.out; omega)]; omega
          have hA3 : a3 ≤ b.length := by have := HF.out.2.1; have := HSS.out; have := H1.out; omega
          have hA2 : a2 ≤ a3 := by omega
          obtain ⟨i0, hi0, hz0, hz1, hz2⟩ := info_parts info_u8
          have hcut := cut_mid (P := Try.prog) 22 5 .i64 .i64 Try.underlying22 hi0 1 hz1 (some ad) b.length c (a2 : Int) (a3 : Int) (by omega) (by omega) (by omega) hcap
          have hmid := Kd.C_mid (c := c) HR.out hA2 hA3 hcap
          simp only [Int.toNat_natCast] at hcut
          have hsz : (Kd.int IntKind.u8).sz = 1 := rfl
          rw [hsz] at hmid
          obtain ⟨A5, hA5⟩ : ∃ A5, A5 = (if c = a2 then some ad else (some ad).map (·.add (a2 * 1))) := ⟨_, rfl⟩
          rw [← hA5] at hcut hmid
          have HMID := Aside0.mk hmid
          have HA := Aside0.mk (And.intro ha2 ha3)
          clear hA5 hmid hi0 hz0 hz1 hz2 hsz
          rw [show a3 - a2 = N by omega] at hcut
          obtain ⟨q, hq⟩ : ∃ q, q = (b.take a3).drop a2 := ⟨_, rfl⟩
          have HQ : Aside0 (q = (b.drop (i + 2)).take N ∧ q.length = N) := ⟨by
            have e : q = (b.drop (i + 2)).take N := by rw [hq, ha3, ha2, take_mid]
            refine ⟨e, ?_⟩
            rw [e, List.length_take]
            have := HNS.out
            omega⟩
          rw [← hq] at HMID
          clear hq ha2 ha3
          have HOL : Aside0 (out.length < 1000 ∧ out.length ≤ 1000000) := ⟨by omega⟩
          have HNX : Aside0 (a3 ≤ b.length ∧ i < a3) := ⟨hA3, by have := HA.out; omega⟩
          have HST : Aside0 (withOut (out ++ [q]) (splitR a3 (b.drop a3) (out ++ [q]).length) = splitM b) := ⟨by
            rw [← HM.out, HD.out, splitR_step _ _ _ _ _ (by rw [HN.out]; exact HNS.out) (by have := HOL.out; omega), withOut_app, HN.out, ← HQ.out.1, List.drop_drop, List.length_append]
            have := HA.out
            rw [show i + 2 + N = a3 by omega]
            rfl⟩
          have HNL : Aside0 (N ≤ 1000000) := ⟨by have := HA.out; have := HNX.out; omega⟩
          clear hA2 hA3
          go_wp2_with (first
            | ((with_reducible refine gate_dst (N := 65) rfl ?_); at_builtin; refine app_bytes (W0 := w0) w0.heap.size rfl (.tmp 56) (.tmp 64) rfl (.slice none 0 0) [] q A5 N (c - a2) rfl rfl (OB.nil _ _) (by rw [← HQ.out.2]; exact Kd.C_below HMID.out (HB0.out.trans (HB3.out.mono HB0.out.size))) HB3.out HB3.out.size (by have := HNL.out; simp; omega) ?_; intro v1 w4 ho1 hb1 hg1 _; rw [List.nil_append] at ho1; have HO1 := Aside0.mk ho1; have HB4 := Aside0.mk hb1; have hb34 : Below w3.heap.size w3 w4 := (Below.refl _ _).grown hg1 (Nat.le_refl _) (fun k e => (by cases e)); have HO4 := Aside0.mk (HO3.out.below hb34); clear ho1 hb1 hg1 hb34; obtain ⟨A6, c6, rfl, _⟩ := HO1.out.reads)
            | ((with_reducible refine gate_dst (N := 69) rfl ?_); at_builtin; refine app_row (W0 := w0) w0.heap.size rfl (.tmp 66) (.tmp 68) rfl (.slice A4 out.length c4) out (.slice A6 q.length c6) q rfl rfl HO4.out HO1.out HB4.out HB4.out.size HOL.out.2 ?_; intro v2 w5 hr2 hb2 _ _; have HO5 := Aside0.mk hr2; have HB5 := Aside0.mk hb2; clear hr2 hb2))
          refine ⟨⟨a3, out ++ [q], HNX.out.1, rfl, by have := HOL.out; simp; omega, HO5, HB5, HST⟩, by have := HNX.out; simp [intOf]; omega⟩
end Go.Proofs.Ytdagpeencafheaa.Oct
