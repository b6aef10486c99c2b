import Derived.Test.YtcicehldhelmbaaTapeH
namespace Go.Proofs.Ytcicehldhelmbaa.Oct
open Go.RowKit Go.Proofs.YtcicehldhelmbaaW.PrintWords Go.Proofs.Ytcicehldhelmbaa.M
set_option linter.unusedVariables false
set_option linter.unusedSimpArgs false
/-- no tape: nil, or one that no call made -/
def NoTape (P : Value) (W : World) : Prop := P = .pointer none ∨ ∃ p, P = .pointer (some ⟨p, 0, none⟩) ∧ W.cell? ⟨p, 0, none⟩ = some (.int .i64 0)
theorem NoTape.below {P : Value} {W W' : World} (h : NoTape P W) (hb : Below W.heap.size W W') : NoTape P W' := by
  rcases h with h | ⟨p, h, hc⟩
  · exact .inl h
  · exact .inr ⟨p, h, (hb.cell (World.block_lt_of_cell? _ _ hc)).trans hc⟩
theorem made_none (w : World) (P : Value) (h : NoTape P w) : Calls Try.prog 31 #[P] w fun e w' => e = .returned (.bool false) ∧ w' = w := by
  rcases h with rfl | ⟨p, rfl, hc⟩
  all_goals
    go_enter Try.func31, Try.ntmps31
    go_wp2
    go_ret
    exact ⟨rfl, rfl⟩
theorem append_none (w : World) (P : Value) (A : Option Addr) (n c : Nat) (h : NoTape P w) : Calls Try.prog 22 #[P, .slice A n c] w fun e w' => e = .returned (.int .i64 6) ∧ w' = w := by
  have HN := Aside0.mk h
  clear h
  go_enter Try.func22, Try.ntmps22
  go_wp2_with fail
  refine (made_none _ P HN.out).mono ?_
  rintro e w1 ⟨rfl, rfl⟩
  go_wp2
  go_ret
  exact ⟨rfl, rfl⟩
theorem force_none (w : World) (P : Value) (h : NoTape P w) : Calls Try.prog 21 #[P] w fun e w' => e = .returned (.int .i64 6) ∧ w' = w := by
  have HN := Aside0.mk h
  clear h
  go_enter Try.func21, Try.ntmps21
  go_wp2_with fail
  refine (made_none _ P HN.out).mono ?_
  rintro e w1 ⟨rfl, rfl⟩
  go_wp2
  go_ret
  exact ⟨rfl, rfl⟩
theorem crash_none (w : World) (P : Value) (k : Int) (h : NoTape P w) : Calls Try.prog 20 #[P, .int .i64 k] w fun e w' => e = .returned (.int .i64 6) ∧ w' = w := by
  have HN := Aside0.mk h
  clear h
  go_enter Try.func20, Try.ntmps20
  go_wp2_with fail
  refine (made_none _ P HN.out).mono ?_
  rintro e w1 ⟨rfl, rfl⟩
  go_wp2
  go_ret
  exact ⟨rfl, rfl⟩
theorem cut_none (w : World) (P : Value) (k : Int) (h : NoTape P w) : Calls Try.prog 24 #[P, .int .i64 k] w fun e w' => e = .returned (.int .i64 6) ∧ w' = w := by
  have HN := Aside0.mk h
  clear h
  go_enter Try.func24, Try.ntmps24
  go_wp2_with fail
  refine (made_none _ P HN.out).mono ?_
  rintro e w1 ⟨rfl, rfl⟩
  go_wp2
  go_ret
  exact ⟨rfl, rfl⟩
theorem swap_none (w : World) (P : Value) (A : Option Addr) (n c : Nat) (h : NoTape P w) : Calls Try.prog 25 #[P, .slice A n c] w fun e w' => e = .returned (.int .i64 6) ∧ w' = w := by
  have HN := Aside0.mk h
  clear h
  go_enter Try.func25, Try.ntmps25
  go_wp2_with fail
  refine (made_none _ P HN.out).mono ?_
  rintro e w1 ⟨rfl, rfl⟩
  go_wp2
  go_ret
  exact ⟨rfl, rfl⟩
theorem bytes_none (w : World) (P : Value) (h : NoTape P w) : Calls Try.prog 14 #[P] w fun e w' => e = .returned (.slice none 0 0) ∧ w' = w := by
  have HN := Aside0.mk h
  clear h
  go_enter Try.func14, Try.ntmps14
  go_wp2_with fail
  refine (made_none _ P HN.out).mono ?_
  rintro e w1 ⟨rfl, rfl⟩
  go_wp2
  go_ret
  exact ⟨rfl, rfl⟩
theorem len_none (w : World) (P : Value) (h : NoTape P w) : Calls Try.prog 16 #[P] w fun e w' => e = .returned (.int .i64 0) ∧ w' = w := by
  have HN := Aside0.mk h
  clear h
  go_enter Try.func16, Try.ntmps16
  go_wp2_with fail
  refine (made_none _ P HN.out).mono ?_
  rintro e w1 ⟨rfl, rfl⟩
  go_wp2
  go_ret
  exact ⟨rfl, rfl⟩
theorem forced_none (w : World) (P : Value) (h : NoTape P w) : Calls Try.prog 17 #[P] w fun e w' => e = .returned (.int .i64 0) ∧ w' = w := by
  have HN := Aside0.mk h
  clear h
  go_enter Try.func17, Try.ntmps17
  go_wp2_with fail
  refine (made_none _ P HN.out).mono ?_
  rintro e w1 ⟨rfl, rfl⟩
  go_wp2
  go_ret
  exact ⟨rfl, rfl⟩
theorem room_none (w : World) (P : Value) (h : NoTape P w) : Calls Try.prog 18 #[P] w fun e w' => e = .returned (.int .i64 0) ∧ w' = w := by
  have HN := Aside0.mk h
  clear h
  go_enter Try.func18, Try.ntmps18
  go_wp2_with fail
  refine (made_none _ P HN.out).mono ?_
  rintro e w1 ⟨rfl, rfl⟩
  go_wp2
  go_ret
  exact ⟨rfl, rfl⟩
/-- in the loop that turns the bytes that were handed in -/
structure TurnN (w : World) (m : Nat) (v : Value) (W : World) : Prop where
  own : ∃ zs : List Int, zs.length = m ∧ Bytes zs ∧ OB W w.heap.size v zs
  bel : Below w.heap.size w W
theorem TurnN.at {w W : World} {m : Nat} {A : Option Addr} {c : Nat} (h : TurnN w m (.slice A m c) W) {k : Nat} (hk : k < m) :
    ∃ g z, A = some ⟨g, 0, none⟩ ∧ Byte z ∧ W.cell? ⟨g, k, none⟩ = some (.int .u8 z) ∧ W.frozen? ⟨g, k, none⟩ = false ∧ ∀ x, Byte x → TurnN w m (.slice A m c) (W.setCell ⟨g, k, none⟩ (.int .u8 x)) := by
  obtain ⟨⟨zs, hl, hz, ho⟩, hg⟩ := h
  obtain ⟨g, cap, hv, hg1, hg2⟩ := ho.form (by omega)
  injection hv with hA _ hc
  subst hA hc
  have ho' : W.ownsRow w.heap.size 5 1 (.slice (some ⟨g, 0, none⟩) m c) m (nums .u8 zs) := by unfold OB at ho; rwa [hl] at ho
  obtain ⟨hc, hf⟩ := own_at ho' (k : Int) (by omega) (by omega)
  rw [Int.toNat_natCast] at hc hf
  refine ⟨g, _, rfl, hz.getD k, hc, hf, fun x hx => ?_⟩
  have hp := own_store ho' (k : Int) x
  rw [Int.toNat_natCast] at hp
  refine ⟨⟨zs.set k x, (by simp [hl]), hz.set hx k, ?_⟩, hg.setCell hg1 _⟩
  have := hp.1
  unfold OB
  rw [List.length_set, hl]
  exact this
set_option maxHeartbeats 2000000 in
theorem nocall_0 (w : World) (P : Value) (kd n : Int) (b : List Int) (B : Option Addr) (c : Nat) (h : NoTape P w) (hr : Kd.C (Kd.int .u8) w B b.length b) (ho : OpS.ok (kd, n, b)) (hlen : b.length ≤ 140737488355328) (hk : kd = 0) :
    Calls Try.prog 12 #[P, .agg #[.int .i64 kd, .int .i64 n, .slice B b.length c]] w (fun e w' => e = .returned (.int .i64 6) ∧ Below w.heap.size w w') := by
  have HK := Aside0.mk hk
  clear hk
  have HNT := Aside0.mk h
  have HR := Aside0.mk hr
  have HOK := Aside0.mk ho
  clear h hr ho
  go_enter Try.func12, Try.ntmps12
  go_wp2_with fail
  obtain ⟨w0, hw0⟩ : ∃ w0, w0 = w.alloc (.cells #[.int .i64 kd, .int .i64 n, .slice B b.length c] 32) := ⟨_, rfl⟩
  have hb0 : Below w.heap.size w w0 := by rw [hw0]; exact below_alloc (Below.refl _ _) _
  have hh0 : w0.heap[w.heap.size]? = some (.cells #[.int .i64 kd, .int .i64 n, .slice B b.length c] 32 (0, 0)) := by rw [hw0]; exact heap_alloc_new w _
  rw [← hw0]
  have HB0 := Aside0.mk hb0
  have HH0 := Aside0.mk hh0
  clear hw0 hb0 hh0
  obtain ⟨c0, c1, c2, f0, f1, f2⟩ := three_cells HH0.out
  go_wp2_with fail
  refine (copy_calls _ B c b (Kd.C_below HR.out HB0.out) hlen).mono ?_
  rintro e w1 ⟨v, rfl, ho1, hb1⟩
  have HO1 := Aside0.mk ho1
  have HB1 := Aside0.mk hb1
  have HNT1 := Aside0.mk ((HNT.out.below HB0.out).below hb1)
  obtain ⟨A1, c3, rfl, hr1⟩ := ho1.reads
  have HR1 := Aside0.mk hr1
  obtain ⟨d0, d1, d2, _, _, _⟩ := three_cells (blk_keep HH0.out hb1)
  clear ho1 hb1 hr1 c0 c1 c2 f0 f1 f2
  have hk := HK.out
  have b0 : (kd == 0) = true := beq_iff_eq.2 hk
  clear hk
  go_wp2_with fail
  refine (append_none _ P A1 b.length c3 HNT1.out).mono ?_
  rintro e w2 ⟨rfl, rfl⟩
  have HTU : Aside0 (TurnN w b.length (.slice A1 b.length c3) w2) := ⟨⟨⟨b, rfl, HOK.out.2.2, HO1.out.lower HB0.out.size⟩, HB0.out.trans (HB1.out.mono HB0.out.size)⟩⟩
  go_wp2_with fail
  go_loopw [7] (fun v7 wr => ∃ (i : Nat), i ≤ b.length ∧ v7 = .int .i64 i ∧ Aside0 (TurnN w b.length (.slice A1 b.length c3) wr)) (fun v _ => b.length - (intOf v).toNat)
  case atStart => exact ⟨0, by omega, rfl, HTU⟩
  case round =>
    obtain ⟨i, hi, rfl, HT5⟩ := hrel
    by_cases hlt : i < b.length
    · obtain ⟨g, z, rfl, hzb, hc, hf, hset⟩ := HT5.out.at hlt
      have HX := Aside0.mk hset
      clear hset
      obtain ⟨hz0, hz1⟩ := hzb
      have hxor := u8_xor hz0 hz1 (show (0 : Int) ≤ 255 by omega) (show (255 : Int) < 256 by omega)
      have hxb : Byte ((z.toNat ^^^ (255 : Int).toNat : Nat) : Int) := by have := xor_byte (a := z.toNat) (b := (255 : Int).toNat) (by omega) (by omega); unfold Byte; omega
      obtain ⟨x, hx⟩ : ∃ x : Int, x = ((z.toNat ^^^ (255 : Int).toNat : Nat) : Int) := ⟨_, rfl⟩
      rw [← hx] at hxor hxb
      have HX2 := Aside0.mk (HX.out x hxb)
      clear hx hxb
      go_wp2_with fail
      refine ⟨⟨i + 1, by omega, by go_num, HX2⟩, by simp [intOf]; omega⟩
    · obtain rfl : i = b.length := by omega
      go_wp2_with fail
      go_ret
      exact ⟨rfl, HT5.out.bel⟩
set_option maxHeartbeats 2000000 in
theorem nocall_1 (w : World) (P : Value) (kd n : Int) (b : List Int) (B : Option Addr) (c : Nat) (h : NoTape P w) (hr : Kd.C (Kd.int .u8) w B b.length b) (ho : OpS.ok (kd, n, b)) (hlen : b.length ≤ 140737488355328) (hk : kd = 1) :
    Calls Try.prog 12 #[P, .agg #[.int .i64 kd, .int .i64 n, .slice B b.length c]] w (fun e w' => e = .returned (.int .i64 6) ∧ Below w.heap.size w w') := by
  have HK := Aside0.mk hk
  clear hk
  have HNT := Aside0.mk h
  have HR := Aside0.mk hr
  have HOK := Aside0.mk ho
  clear h hr ho
  go_enter Try.func12, Try.ntmps12
  go_wp2_with fail
  obtain ⟨w0, hw0⟩ : ∃ w0, w0 = w.alloc (.cells #[.int .i64 kd, .int .i64 n, .slice B b.length c] 32) := ⟨_, rfl⟩
  have hb0 : Below w.heap.size w w0 := by rw [hw0]; exact below_alloc (Below.refl _ _) _
  have hh0 : w0.heap[w.heap.size]? = some (.cells #[.int .i64 kd, .int .i64 n, .slice B b.length c] 32 (0, 0)) := by rw [hw0]; exact heap_alloc_new w _
  rw [← hw0]
  have HB0 := Aside0.mk hb0
  have HH0 := Aside0.mk hh0
  clear hw0 hb0 hh0
  obtain ⟨c0, c1, c2, f0, f1, f2⟩ := three_cells HH0.out
  go_wp2_with fail
  refine (copy_calls _ B c b (Kd.C_below HR.out HB0.out) hlen).mono ?_
  rintro e w1 ⟨v, rfl, ho1, hb1⟩
  have HO1 := Aside0.mk ho1
  have HB1 := Aside0.mk hb1
  have HNT1 := Aside0.mk ((HNT.out.below HB0.out).below hb1)
  obtain ⟨A1, c3, rfl, hr1⟩ := ho1.reads
  have HR1 := Aside0.mk hr1
  obtain ⟨d0, d1, d2, _, _, _⟩ := three_cells (blk_keep HH0.out hb1)
  clear ho1 hb1 hr1 c0 c1 c2 f0 f1 f2
  have hk := HK.out
  have b0 : (kd == 0) = false := beq_eq_false_iff_ne.2 (by omega)
  have b1 : (kd == 1) = true := beq_iff_eq.2 hk
  clear hk
  go_wp2_with fail
  refine (force_none _ P HNT1.out).mono ?_
  rintro e w2 ⟨rfl, rfl⟩
  have HTU : Aside0 (TurnN w b.length (.slice A1 b.length c3) w2) := ⟨⟨⟨b, rfl, HOK.out.2.2, HO1.out.lower HB0.out.size⟩, HB0.out.trans (HB1.out.mono HB0.out.size)⟩⟩
  go_wp2_with fail
  go_loopw [7] (fun v7 wr => ∃ (i : Nat), i ≤ b.length ∧ v7 = .int .i64 i ∧ Aside0 (TurnN w b.length (.slice A1 b.length c3) wr)) (fun v _ => b.length - (intOf v).toNat)
  case atStart => exact ⟨0, by omega, rfl, HTU⟩
  case round =>
    obtain ⟨i, hi, rfl, HT5⟩ := hrel
    by_cases hlt : i < b.length
    · obtain ⟨g, z, rfl, hzb, hc, hf, hset⟩ := HT5.out.at hlt
      have HX := Aside0.mk hset
      clear hset
      obtain ⟨hz0, hz1⟩ := hzb
      have hxor := u8_xor hz0 hz1 (show (0 : Int) ≤ 255 by omega) (show (255 : Int) < 256 by omega)
      have hxb : Byte ((z.toNat ^^^ (255 : Int).toNat : Nat) : Int) := by have := xor_byte (a := z.toNat) (b := (255 : Int).toNat) (by omega) (by omega); unfold Byte; omega
      obtain ⟨x, hx⟩ : ∃ x : Int, x = ((z.toNat ^^^ (255 : Int).toNat : Nat) : Int) := ⟨_, rfl⟩
      rw [← hx] at hxor hxb
      have HX2 := Aside0.mk (HX.out x hxb)
      clear hx hxb
      go_wp2_with fail
      refine ⟨⟨i + 1, by omega, by go_num, HX2⟩, by simp [intOf]; omega⟩
    · obtain rfl : i = b.length := by omega
      go_wp2_with fail
      go_ret
      exact ⟨rfl, HT5.out.bel⟩
set_option maxHeartbeats 2000000 in
theorem nocall_2 (w : World) (P : Value) (kd n : Int) (b : List Int) (B : Option Addr) (c : Nat) (h : NoTape P w) (hr : Kd.C (Kd.int .u8) w B b.length b) (ho : OpS.ok (kd, n, b)) (hlen : b.length ≤ 140737488355328) (hk : kd = 2) :
    Calls Try.prog 12 #[P, .agg #[.int .i64 kd, .int .i64 n, .slice B b.length c]] w (fun e w' => e = .returned (.int .i64 6) ∧ Below w.heap.size w w') := by
  have HK := Aside0.mk hk
  clear hk
  have HNT := Aside0.mk h
  have HR := Aside0.mk hr
  have HOK := Aside0.mk ho
  clear h hr ho
  go_enter Try.func12, Try.ntmps12
  go_wp2_with fail
  obtain ⟨w0, hw0⟩ : ∃ w0, w0 = w.alloc (.cells #[.int .i64 kd, .int .i64 n, .slice B b.length c] 32) := ⟨_, rfl⟩
  have hb0 : Below w.heap.size w w0 := by rw [hw0]; exact below_alloc (Below.refl _ _) _
  have hh0 : w0.heap[w.heap.size]? = some (.cells #[.int .i64 kd, .int .i64 n, .slice B b.length c] 32 (0, 0)) := by rw [hw0]; exact heap_alloc_new w _
  rw [← hw0]
  have HB0 := Aside0.mk hb0
  have HH0 := Aside0.mk hh0
  clear hw0 hb0 hh0
  obtain ⟨c0, c1, c2, f0, f1, f2⟩ := three_cells HH0.out
  go_wp2_with fail
  refine (copy_calls _ B c b (Kd.C_below HR.out HB0.out) hlen).mono ?_
  rintro e w1 ⟨v, rfl, ho1, hb1⟩
  have HO1 := Aside0.mk ho1
  have HB1 := Aside0.mk hb1
  have HNT1 := Aside0.mk ((HNT.out.below HB0.out).below hb1)
  obtain ⟨A1, c3, rfl, hr1⟩ := ho1.reads
  have HR1 := Aside0.mk hr1
  obtain ⟨d0, d1, d2, _, _, _⟩ := three_cells (blk_keep HH0.out hb1)
  clear ho1 hb1 hr1 c0 c1 c2 f0 f1 f2
  have hk := HK.out
  have b0 : (kd == 0) = false := beq_eq_false_iff_ne.2 (by omega)
  have b1 : (kd == 1) = false := beq_eq_false_iff_ne.2 (by omega)
  have b2 : (kd == 2) = true := beq_iff_eq.2 hk
  clear hk
  go_wp2_with fail
  refine (crash_none _ P n HNT1.out).mono ?_
  rintro e w2 ⟨rfl, rfl⟩
  have HTU : Aside0 (TurnN w b.length (.slice A1 b.length c3) w2) := ⟨⟨⟨b, rfl, HOK.out.2.2, HO1.out.lower HB0.out.size⟩, HB0.out.trans (HB1.out.mono HB0.out.size)⟩⟩
  go_wp2_with fail
  go_loopw [7] (fun v7 wr => ∃ (i : Nat), i ≤ b.length ∧ v7 = .int .i64 i ∧ Aside0 (TurnN w b.length (.slice A1 b.length c3) wr)) (fun v _ => b.length - (intOf v).toNat)
  case atStart => exact ⟨0, by omega, rfl, HTU⟩
  case round =>
    obtain ⟨i, hi, rfl, HT5⟩ := hrel
    by_cases hlt : i < b.length
    · obtain ⟨g, z, rfl, hzb, hc, hf, hset⟩ := HT5.out.at hlt
      have HX := Aside0.mk hset
      clear hset
      obtain ⟨hz0, hz1⟩ := hzb
      have hxor := u8_xor hz0 hz1 (show (0 : Int) ≤ 255 by omega) (show (255 : Int) < 256 by omega)
      have hxb : Byte ((z.toNat ^^^ (255 : Int).toNat : Nat) : Int) := by have := xor_byte (a := z.toNat) (b := (255 : Int).toNat) (by omega) (by omega); unfold Byte; omega
      obtain ⟨x, hx⟩ : ∃ x : Int, x = ((z.toNat ^^^ (255 : Int).toNat : Nat) : Int) := ⟨_, rfl⟩
      rw [← hx] at hxor hxb
      have HX2 := Aside0.mk (HX.out x hxb)
      clear hx hxb
      go_wp2_with fail
      refine ⟨⟨i + 1, by omega, by go_num, HX2⟩, by simp [intOf]; omega⟩
    · obtain rfl : i = b.length := by omega
      go_wp2_with fail
      go_ret
      exact ⟨rfl, HT5.out.bel⟩
set_option maxHeartbeats 2000000 in
theorem nocall_3 (w : World) (P : Value) (kd n : Int) (b : List Int) (B : Option Addr) (c : Nat) (h : NoTape P w) (hr : Kd.C (Kd.int .u8) w B b.length b) (ho : OpS.ok (kd, n, b)) (hlen : b.length ≤ 140737488355328) (hk : kd = 3) :
    Calls Try.prog 12 #[P, .agg #[.int .i64 kd, .int .i64 n, .slice B b.length c]] w (fun e w' => e = .returned (.int .i64 6) ∧ Below w.heap.size w w') := by
  have HK := Aside0.mk hk
  clear hk
  have HNT := Aside0.mk h
  have HR := Aside0.mk hr
  have HOK := Aside0.mk ho
  clear h hr ho
  go_enter Try.func12, Try.ntmps12
  go_wp2_with fail
  obtain ⟨w0, hw0⟩ : ∃ w0, w0 = w.alloc (.cells #[.int .i64 kd, .int .i64 n, .slice B b.length c] 32) := ⟨_, rfl⟩
  have hb0 : Below w.heap.size w w0 := by rw [hw0]; exact below_alloc (Below.refl _ _) _
  have hh0 : w0.heap[w.heap.size]? = some (.cells #[.int .i64 kd, .int .i64 n, .slice B b.length c] 32 (0, 0)) := by rw [hw0]; exact heap_alloc_new w _
  rw [← hw0]
  have HB0 := Aside0.mk hb0
  have HH0 := Aside0.mk hh0
  clear hw0 hb0 hh0
  obtain ⟨c0, c1, c2, f0, f1, f2⟩ := three_cells HH0.out
  go_wp2_with fail
  refine (copy_calls _ B c b (Kd.C_below HR.out HB0.out) hlen).mono ?_
  rintro e w1 ⟨v, rfl, ho1, hb1⟩
  have HO1 := Aside0.mk ho1
  have HB1 := Aside0.mk hb1
  have HNT1 := Aside0.mk ((HNT.out.below HB0.out).below hb1)
  obtain ⟨A1, c3, rfl, hr1⟩ := ho1.reads
  have HR1 := Aside0.mk hr1
  obtain ⟨d0, d1, d2, _, _, _⟩ := three_cells (blk_keep HH0.out hb1)
  clear ho1 hb1 hr1 c0 c1 c2 f0 f1 f2
  have hk := HK.out
  have b0 : (kd == 0) = false := beq_eq_false_iff_ne.2 (by omega)
  have b1 : (kd == 1) = false := beq_eq_false_iff_ne.2 (by omega)
  have b2 : (kd == 2) = false := beq_eq_false_iff_ne.2 (by omega)
  have b3 : (kd == 3) = true := beq_iff_eq.2 hk
  clear hk
  go_wp2_with fail
  refine (cut_none _ P n HNT1.out).mono ?_
  rintro e w2 ⟨rfl, rfl⟩
  have HTU : Aside0 (TurnN w b.length (.slice A1 b.length c3) w2) := ⟨⟨⟨b, rfl, HOK.out.2.2, HO1.out.lower HB0.out.size⟩, HB0.out.trans (HB1.out.mono HB0.out.size)⟩⟩
  go_wp2_with fail
  go_loopw [7] (fun v7 wr => ∃ (i : Nat), i ≤ b.length ∧ v7 = .int .i64 i ∧ Aside0 (TurnN w b.length (.slice A1 b.length c3) wr)) (fun v _ => b.length - (intOf v).toNat)
  case atStart => exact ⟨0, by omega, rfl, HTU⟩
  case round =>
    obtain ⟨i, hi, rfl, HT5⟩ := hrel
    by_cases hlt : i < b.length
    · obtain ⟨g, z, rfl, hzb, hc, hf, hset⟩ := HT5.out.at hlt
      have HX := Aside0.mk hset
      clear hset
      obtain ⟨hz0, hz1⟩ := hzb
      have hxor := u8_xor hz0 hz1 (show (0 : Int) ≤ 255 by omega) (show (255 : Int) < 256 by omega)
      have hxb : Byte ((z.toNat ^^^ (255 : Int).toNat : Nat) : Int) := by have := xor_byte (a := z.toNat) (b := (255 : Int).toNat) (by omega) (by omega); unfold Byte; omega
      obtain ⟨x, hx⟩ : ∃ x : Int, x = ((z.toNat ^^^ (255 : Int).toNat : Nat) : Int) := ⟨_, rfl⟩
      rw [← hx] at hxor hxb
      have HX2 := Aside0.mk (HX.out x hxb)
      clear hx hxb
      go_wp2_with fail
      refine ⟨⟨i + 1, by omega, by go_num, HX2⟩, by simp [intOf]; omega⟩
    · obtain rfl : i = b.length := by omega
      go_wp2_with fail
      go_ret
      exact ⟨rfl, HT5.out.bel⟩
set_option maxHeartbeats 2000000 in
theorem nocall_4 (w : World) (P : Value) (kd n : Int) (b : List Int) (B : Option Addr) (c : Nat) (h : NoTape P w) (hr : Kd.C (Kd.int .u8) w B b.length b) (ho : OpS.ok (kd, n, b)) (hlen : b.length ≤ 140737488355328) (hk : kd = 4) :
    Calls Try.prog 12 #[P, .agg #[.int .i64 kd, .int .i64 n, .slice B b.length c]] w (fun e w' => e = .returned (.int .i64 6) ∧ Below w.heap.size w w') := by
  have HK := Aside0.mk hk
  clear hk
  have HNT := Aside0.mk h
  have HR := Aside0.mk hr
  have HOK := Aside0.mk ho
  clear h hr ho
  go_enter Try.func12, Try.ntmps12
  go_wp2_with fail
  obtain ⟨w0, hw0⟩ : ∃ w0, w0 = w.alloc (.cells #[.int .i64 kd, .int .i64 n, .slice B b.length c] 32) := ⟨_, rfl⟩
  have hb0 : Below w.heap.size w w0 := by rw [hw0]; exact below_alloc (Below.refl _ _) _
  have hh0 : w0.heap[w.heap.size]? = some (.cells #[.int .i64 kd, .int .i64 n, .slice B b.length c] 32 (0, 0)) := by rw [hw0]; exact heap_alloc_new w _
  rw [← hw0]
  have HB0 := Aside0.mk hb0
  have HH0 := Aside0.mk hh0
  clear hw0 hb0 hh0
  obtain ⟨c0, c1, c2, f0, f1, f2⟩ := three_cells HH0.out
  go_wp2_with fail
  refine (copy_calls _ B c b (Kd.C_below HR.out HB0.out) hlen).mono ?_
  rintro e w1 ⟨v, rfl, ho1, hb1⟩
  have HO1 := Aside0.mk ho1
  have HB1 := Aside0.mk hb1
  have HNT1 := Aside0.mk ((HNT.out.below HB0.out).below hb1)
  obtain ⟨A1, c3, rfl, hr1⟩ := ho1.reads
  have HR1 := Aside0.mk hr1
  obtain ⟨d0, d1, d2, _, _, _⟩ := three_cells (blk_keep HH0.out hb1)
  clear ho1 hb1 hr1 c0 c1 c2 f0 f1 f2
  have hk := HK.out
  have b0 : (kd == 0) = false := beq_eq_false_iff_ne.2 (by omega)
  have b1 : (kd == 1) = false := beq_eq_false_iff_ne.2 (by omega)
  have b2 : (kd == 2) = false := beq_eq_false_iff_ne.2 (by omega)
  have b3 : (kd == 3) = false := beq_eq_false_iff_ne.2 (by omega)
  have b4 : (kd == 4) = true := beq_iff_eq.2 hk
  clear hk
  go_wp2_with fail
  refine (swap_none _ P A1 b.length c3 HNT1.out).mono ?_
  rintro e w2 ⟨rfl, rfl⟩
  have HTU : Aside0 (TurnN w b.length (.slice A1 b.length c3) w2) := ⟨⟨⟨b, rfl, HOK.out.2.2, HO1.out.lower HB0.out.size⟩, HB0.out.trans (HB1.out.mono HB0.out.size)⟩⟩
  go_wp2_with fail
  go_loopw [7] (fun v7 wr => ∃ (i : Nat), i ≤ b.length ∧ v7 = .int .i64 i ∧ Aside0 (TurnN w b.length (.slice A1 b.length c3) wr)) (fun v _ => b.length - (intOf v).toNat)
  case atStart => exact ⟨0, by omega, rfl, HTU⟩
  case round =>
    obtain ⟨i, hi, rfl, HT5⟩ := hrel
    by_cases hlt : i < b.length
    · obtain ⟨g, z, rfl, hzb, hc, hf, hset⟩ := HT5.out.at hlt
      have HX := Aside0.mk hset
      clear hset
      obtain ⟨hz0, hz1⟩ := hzb
      have hxor := u8_xor hz0 hz1 (show (0 : Int) ≤ 255 by omega) (show (255 : Int) < 256 by omega)
      have hxb : Byte ((z.toNat ^^^ (255 : Int).toNat : Nat) : Int) := by have := xor_byte (a := z.toNat) (b := (255 : Int).toNat) (by omega) (by omega); unfold Byte; omega
      obtain ⟨x, hx⟩ : ∃ x : Int, x = ((z.toNat ^^^ (255 : Int).toNat : Nat) : Int) := ⟨_, rfl⟩
      rw [← hx] at hxor hxb
      have HX2 := Aside0.mk (HX.out x hxb)
      clear hx hxb
      go_wp2_with fail
      refine ⟨⟨i + 1, by omega, by go_num, HX2⟩, by simp [intOf]; omega⟩
    · obtain rfl : i = b.length := by omega
      go_wp2_with fail
      go_ret
      exact ⟨rfl, HT5.out.bel⟩
theorem nocall_calls (w : World) (P : Value) (kd n : Int) (b : List Int) (B : Option Addr) (c : Nat) (h : NoTape P w) (hr : Kd.C (Kd.int .u8) w B b.length b) (ho : OpS.ok (kd, n, b)) (hlen : b.length ≤ 140737488355328) (h0 : 0 ≤ kd) (h4 : kd ≤ 4) :
    Calls Try.prog 12 #[P, .agg #[.int .i64 kd, .int .i64 n, .slice B b.length c]] w (fun e w' => e = .returned (.int .i64 6) ∧ Below w.heap.size w w') := by
  have hcase : kd = 0 ∨ kd = 1 ∨ kd = 2 ∨ kd = 3 ∨ kd = 4 := by omega
  rcases hcase with h0 | h0 | h0 | h0 | h0
  · exact nocall_0 w P kd n b B c h hr ho hlen h0
  · exact nocall_1 w P kd n b B c h hr ho hlen h0
  · exact nocall_2 w P kd n b B c h hr ho hlen h0
  · exact nocall_3 w P kd n b B c h hr ho hlen h0
  · exact nocall_4 w P kd n b B c h hr ho hlen h0
end Go.Proofs.Ytcicehldhelmbaa.Oct
