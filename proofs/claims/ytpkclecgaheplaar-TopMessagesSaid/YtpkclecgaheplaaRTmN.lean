import Derived.Test.YtpkclecgaheplaaRTmL
import Derived.Test.YtpkclecgaheplaaRTmFc
/- luw.Read. -/
namespace Go.Proofs.YtpkclecgaheplaaR.Oct
open Go.RowKit Go.Proofs.YtpkclecgaheplaaRW.PrintWords Go.Proofs.YtpkclecgaheplaaR.M
set_option linter.unusedVariables false
set_option linter.unusedSimpArgs false
theorem three_frz {W : World} {b : Nat} {x y z : Value} {t : TypeId} (h : W.heap[b]? = some (.cells #[x, y, z] t (0, 0))) :
    (W.cell? ⟨b, 0, none⟩ = some x ∧ W.cell? ⟨b, 1, none⟩ = some y ∧ W.cell? ⟨b, 2, none⟩ = some z) ∧ W.frozen? ⟨b, 0, none⟩ = false ∧ W.frozen? ⟨b, 1, none⟩ = false ∧ W.frozen? ⟨b, 2, none⟩ = false := by
  refine ⟨⟨?_, ?_, ?_⟩, ?_, ?_, ?_⟩ <;> simp [World.cell?, World.frozen?, h]
theorem rawB_parts {u l s : Int} (hl : 0 ≤ l ∧ l < 4294967296) (hs : 0 ≤ s ∧ s < 4294967296) : getF (((rawB u l s).drop 1).take 4) = l ∧ getF (((rawB u l s).drop 5).take 4) = s ∧ (rawB u l s).getD 0 0 = u := by
  have e1 : ((rawB u l s).drop 1).take 4 = beB l 4 := by unfold rawB; rw [List.drop_one, List.tail_cons]; exact List.take_left' (beB_length _ _)
  have e2 : ((rawB u l s).drop 5).take 4 = beB s 4 := by
    have : (rawB u l s).drop 5 = beB s 4 := by unfold rawB; rw [show (5 : Nat) = 4 + 1 from rfl, List.drop_succ_cons]; exact List.drop_left' (beB_length _ _)
    rw [this]
    exact List.take_of_length_le (by rw [beB_length]; exact Nat.le_refl _)
  rw [e1, e2]
  exact ⟨getF_beB4 hl.1 hl.2, getF_beB4 hs.1 hs.2, rfl⟩
set_option maxRecDepth 20000 in
set_option maxHeartbeats 4000000 in
theorem lread_calls (w : World) (A : Option Addr) (c : Nat) (u l s : Int) (h : Kd.C (Kd.int .u8) w A 9 (rawB u l s)) (hc : 9 ≤ c) (hc63 : c ≤ 9223372036854775807) (hp : luwP u s) (hl : 0 ≤ l ∧ l < 4294967296) (hs : 0 ≤ s ∧ s < 4294967296) :
    Calls Try.prog 31 #[.slice A 9 c] w fun e w' => e = .returned (.tuple #[luwV u l s, .int .i64 0]) ∧ Below w.heap.size w w' := by
  obtain ⟨ad, rfl, c0⟩ := C_byte h (k := 0) (by decide)
  obtain ⟨p1, p2, p3⟩ := rawB_parts (u := u) hl hs
  have h9 : Kd.C (Kd.int .u8) w (some ad) (rawB u l s).length (rawB u l s) := by rw [rawB_len]; exact h
  have hm1 := C_mid h9 (k := 1) (n := 4) (by rw [rawB_len]; decide)
  have hm5 := C_mid h9 (k := 5) (n := 4) (by rw [rawB_len]; decide)
  have hl1 : (((rawB u l s).drop 1).take 4).length = 4 := by rw [List.length_take, List.length_drop, rawB_len]; decide
  have hl5 : (((rawB u l s).drop 5).take 4).length = 4 := by rw [List.length_take, List.length_drop, rawB_len]; decide
  rw [hl1] at hm1
  rw [hl5] at hm5
  have hbb := rawB_bytes (l := l) (s := s) hp.1
  have c0 : w.cell? ad = some (.int .u8 u) := by rw [p3] at c0; exact c0
  have HR := Aside0.mk (fun W => luwright_calls W u l s)
  rw [decide_eq_true hp] at HR
  obtain ⟨⟨hu0, hu6⟩, _⟩ := hp
  have hcu : IntKind.i64.wrap u = u := IntWalk.i64_in _ (by omega)
  obtain ⟨w0, hw0⟩ : ∃ w0, w0 = w.alloc (.cells #[.int .i64 0, .int .u32 0, .int .u32 0] 34) := ⟨_, rfl⟩
  have hb0 : Below w.heap.size w w0 := by rw [hw0]; exact below_alloc (Below.refl _ _) _
  have hh0 : w0.heap[w.heap.size]? = some (.cells #[.int .i64 0, .int .u32 0, .int .u32 0] 34 (0, 0)) := by rw [hw0]; exact heap_alloc_new w _
  have HF : Aside0 (∀ W (B : Addr) (n : Nat) (x : Int), Below w0.heap.size w0 W → (B = ⟨ad.block, ad.off + 1, none⟩ ∧ n = c - 1 ∧ x = l ∨ B = ⟨ad.block, ad.off + 5, none⟩ ∧ n = c - 5 ∧ x = s) → Calls Try.prog 33 #[.slice (some B) 4 n] W (fun e W' => e = .returned (.int .u32 x) ∧ Below w0.heap.size w0 W' ∧ Below W.heap.size W W')) := ⟨fun W B n x hW hB => by
    rcases hB with ⟨rfl, rfl, rfl⟩ | ⟨rfl, rfl, rfl⟩
    · refine (four_calls W _ (c - 1) _ hl1 (Kd.C_below hm1 (hb0.trans (hW.mono hb0.size))) ((hbb.drop 1).take 4)).mono ?_
      rintro e W' ⟨rfl, hb⟩
      exact ⟨by rw [p1], hW.trans (hb.mono hW.size), hb⟩
    · refine (four_calls W _ (c - 5) _ hl5 (Kd.C_below hm5 (hb0.trans (hW.mono hb0.size))) ((hbb.drop 5).take 4)).mono ?_
      rintro e W' ⟨rfl, hb⟩
      exact ⟨by rw [p2], hW.trans (hb.mono hW.size), hb⟩⟩
  have HS : Aside0 (∀ W, Below w0.heap.size w0 W → W.cell? ad = some (.int .u8 u)) := ⟨fun W hW => ((hb0.trans (hW.mono hb0.size)).cell (World.block_lt_of_cell? _ _ c0)).trans c0⟩
  have HB0 := Aside0.mk hb0
  have HH0 := Aside0.mk hh0
  have HW0 := Aside0.mk hw0
  have HBD : Aside0 (Below w0.heap.size w0 w0.drew) := ⟨below_drew (Below.refl _ _)⟩
  have HBE : Aside0 (Below w0.heap.size w0 w0) := ⟨Below.refl _ _⟩
  have HS3 : Aside0 (∀ (W : World) (g : Nat) (x y z : Value), Below w0.heap.size w0 W → w0.heap.size ≤ g → Below w0.heap.size w0 (((W.setCell ⟨g, 0, none⟩ x).setCell ⟨g, 1, none⟩ y).setCell ⟨g, 2, none⟩ z)) := ⟨fun W g x y z h hg => ((h.setCell (p := ⟨g, 0, none⟩) hg x).setCell (p := ⟨g, 1, none⟩) hg y).setCell (p := ⟨g, 2, none⟩) hg z⟩
  have x0 := HS.out _ (Below.refl _ _)
  have n1 : c ≠ 1 := by omega
  have n5 : c ≠ 5 := by omega
  have q1 : (5 : Int) ≤ (c : Int) := by omega
  have q2 : (9 : Int) ≤ (c : Int) := by omega
  clear hb0 hh0 hw0 h h9 hm1 hm5 hl1 hl5 hbb p1 p2 p3 c0 hl hs hc
  go_enter Try.func31, Try.ntmps31
  go_wp2_with fail
  rw [← HW0.out]
  go_wp2_with fail
  go_region_held_law (fun W => W.cell? ad = some (.int .u8 u)) (exact HS.out _ (by first | exact Aside0.out (by assumption) | exact below_alloc (Aside0.out (by assumption)) _ | exact below_drew (below_alloc (Aside0.out (by assumption)) _) | exact HS3.out _ _ _ _ _ (Aside0.out (by assumption)) (by first | exact Nat.le_refl _ | exact Below.size (Aside0.out (by assumption)))))
    ((go_at_call 33; refine (HF.out _ _ _ _ (by first | exact Aside0.out (by assumption) | exact below_alloc (Aside0.out (by assumption)) _ | exact below_drew (below_alloc (Aside0.out (by assumption)) _)) (by first | exact .inl ⟨rfl, rfl, rfl⟩ | exact .inr ⟨rfl, rfl, rfl⟩)).mono ?_; rintro e wa ⟨rfl, hba, hbl⟩; have HBa := Aside0.mk hba; (try (have hz := blk_keep (by first | exact heap_alloc_new _ _ | exact Aside0.out (by assumption)) hbl; have HZ := Aside0.mk hz; obtain ⟨⟨t0, t1, t2⟩, r0, r1, r2⟩ := three_frz hz; clear hz)); clear hba hbl))
  all_goals
    go_wp2_with fail
    refine (HR.out _).mono ?_
    rintro e w1 ⟨rfl, hb1⟩
    obtain ⟨⟨s0, s1, s2⟩, _⟩ := three_frz (blk_keep (by first | exact heap_alloc_new _ _ | exact heap_set _ (heap_set _ (heap_set _ (Aside0.out (by assumption))))) hb1)
    have HBF : Aside0 (Below w0.heap.size w0 w1) := ⟨Below.trans (by first | exact below_alloc HBa.out _ | exact HS3.out _ _ _ _ _ HBa.out (by first | exact Nat.le_refl _ | exact Below.size (Aside0.out (by assumption)))) (hb1.mono (Below.size (by first | exact below_alloc HBa.out _ | exact HS3.out _ _ _ _ _ HBa.out (by first | exact Nat.le_refl _ | exact Below.size (Aside0.out (by assumption))))))⟩
    obtain ⟨⟨c0, c1, c2⟩, f0, f1, f2⟩ := three_frz (blk_keep HH0.out HBF.out)
    clear hb1
    go_wp2_with fail
    refine bodyPost_ret (v := .tuple #[luwV u l s, .int .i64 0]) (by simp [results, Try.results31, go_sem, c0, c1, c2, f0, f1, f2]) rfl ?_
    exact ⟨rfl, (((HB0.out.trans (HBF.out.mono HB0.out.size)).setCell (p := ⟨w.heap.size, 0, none⟩) (Nat.le_refl _) _).setCell (p := ⟨w.heap.size, 1, none⟩) (Nat.le_refl _) _).setCell (p := ⟨w.heap.size, 2, none⟩) (Nat.le_refl _) _⟩
end Go.Proofs.YtpkclecgaheplaaR.Oct
