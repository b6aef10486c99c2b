import Derived.Test.YtdagpeencafheaaOctI
namespace Go.Proofs.Ytdagpeencafheaa.Oct
open Go.RowKit Go.Proofs.YtdagpeencafheaaW.PrintWords Go.Proofs.Ytdagpeencafheaa.M
set_option linter.unusedVariables false
set_option linter.unusedSimpArgs false
/-- a list of bytes and a fault -/
def RetU (w : World) (m : List Int × Int × Int) (e : Ending) (w' : World) : Prop := ∃ r, e = .returned (.tuple #[r, .agg #[.int .i64 m.2.1, .int .i64 m.2.2]]) ∧ OB w' w.heap.size r m.1 ∧ Below w.heap.size w w'
theorem str_at (s : ByteArray) (k : Nat) : ∀ h : k < s.size, ((s[k]'h).toNat : Int) = (bytesOf s).getD k 0 := fun h => by
  have h1 := bt_at s (k : Int) (by rw [Int.toNat_natCast]; exact h)
  have h2 := rd_bytesOf s (k : Int)
  simp only [Int.toNat_natCast] at h1
  rw [h1, ← h2]
  rfl
theorem bytesOf_bytes (s : ByteArray) : Bytes (bytesOf s) := fun x hx => by
  obtain ⟨b, _, rfl⟩ := List.mem_map.1 hx
  have := b.toNat_lt
  unfold Byte
  omega
/-- two cells of a block of the call's own, and where they stay -/
theorem two_cells {W W' : World} {b : Nat} {x y : Value} {t : TypeId} (h : W.heap[b]? = some (.cells #[x, y] t (0, 0))) :
    W.cell? ⟨b, 0, none⟩ = some x ∧ W.cell? ⟨b, 1, none⟩ = some y ∧ W.frozen? ⟨b, 0, none⟩ = false ∧ W.frozen? ⟨b, 1, none⟩ = false := by
  refine ⟨?_, ?_, ?_, ?_⟩ <;> simp [World.cell?, World.frozen?, h]

theorem u8_or16 {a b : Int} (h0 : 0 ≤ a) (h1 : a < 16) (hb0 : 0 ≤ b) (hb1 : b < 16) : Go.bits .or .u8 (16 * a) b = 16 * a + b :=
  bits_join .u8 8 (by decide) (fun n h0 h1 => by rw [IntKind.wrap_u8]; omega) 4 _ _ (by omega) (by omega) (by omega) hb0 (by omega) (by omega)
theorem own_far2 {W w0 : World} {w : World} {v : Value} {xs : List Int} {x y : Value} (h : OB W w.heap.size v xs) (h' : OB W w0.heap.size v xs) (hz : w0.heap.size = w.heap.size + 1) :
    OB ((W.setCell ⟨w.heap.size, 0, none⟩ x).setCell ⟨w.heap.size, 1, none⟩ y) w.heap.size v xs := by
  refine own_move h (fun k hk => ?_)
  have := own_base h' k hk
  rw [Below.heap_setCell _ _ _ _ (by show k ≠ w.heap.size; omega), Below.heap_setCell _ _ _ _ (by show k ≠ w.heap.size; omega)]

set_option maxHeartbeats 800000 in
theorem unhex_calls (w : World) (s : ByteArray) (hlen : s.size ≤ 1000000) : Calls Try.prog 24 #[.string s] w (RetU w (unhexM (bytesOf s))) := by
  have hl := bytesOf_length s
  obtain ⟨l, hle⟩ : ∃ l, l = bytesOf s := ⟨_, rfl⟩
  rw [← hle] at hl ⊢
  have HL := Aside0.mk hl
  have HLE := Aside0.mk hle
  have HX : Aside0 (Bytes l) := ⟨by rw [hle]; exact bytesOf_bytes s⟩
  have HS : Aside0 (∀ k : Nat, ∀ h : k < s.size, ((s[k]'h).toNat : Int) = l.getD k 0) := ⟨by rw [hle]; exact str_at s⟩
  clear hl hle
  go_enter Try.func24, Try.ntmps24
  go_wp2
  obtain ⟨w0, hw0⟩ : ∃ w0, w0 = w.alloc (.cells #[.int .i64 0, .int .i64 0] 42) := ⟨_, rfl⟩
  have hz : w0.heap.size = w.heap.size + 1 := by rw [hw0]; simp
  have hbl : w0.heap[w.heap.size]? = some (.cells #[.int .i64 0, .int .i64 0] 42 (0, 0)) := by rw [hw0]; exact heap_alloc_new w _
  have hb0 : Below w.heap.size w w0 := by rw [hw0]; exact below_alloc (Below.refl _ _) _
  rw [← hw0]
  have HZ := Aside0.mk hz
  have HBL := Aside0.mk hbl
  have HB0 := Aside0.mk hb0
  clear hw0 hz hbl hb0
  go_loopw [4, 5, 6, 9] (fun v4 _ _ v9 wr => ∃ k : Nat, k ≤ s.size ∧ v9 = .int .i64 k ∧ Aside0 (∀ j, j < k → dig (l.getD j 0) ≠ 16) ∧ Aside0 (OB wr w0.heap.size v4 (unB l k)) ∧ Aside0 (Below w0.heap.size w0 wr)) (fun _ _ _ v _ => s.size - (intOf v).toNat)
  case atStart => exact ⟨0, by omega, rfl, ⟨fun j hj => absurd hj (by omega)⟩, ⟨OB.nil _ _⟩, ⟨Below.refl _ _⟩⟩
  case round =>
    obtain ⟨k, hk, rfl, HG, HO, HB⟩ := hrel
    have hbl : wr.heap[w.heap.size]? = some (.cells #[.int .i64 0, .int .i64 0] 42 (0, 0)) := by rw [HB.out.block _ (by rw [HZ.out]; omega)]; exact HBL.out
    obtain ⟨c0, c1, f0, f1⟩ := two_cells hbl (W' := wr)
    clear hbl
    by_cases hlt : k < s.size
    · have hsi := HS.out k
      have hb := HX.out.getD k
      obtain ⟨x, hx⟩ : ∃ x, x = l.getD k 0 := ⟨_, rfl⟩
      rw [← hx] at hsi hb
      have HX' := Aside0.mk hx
      clear hx
      obtain ⟨hb0, hb1⟩ := hb
      go_wp2_with fail
      refine (digit_calls _ x hb0 hb1).mono ?_
      rintro e w1 ⟨rfl, rfl⟩
      have hdr := dig_range x
      obtain ⟨d, hd⟩ : ∃ d, d = dig x := ⟨_, rfl⟩
      rw [← hd] at hdr ⊢
      obtain ⟨hd0, hd1⟩ := hdr
      have HD := Aside0.mk hd
      clear hd
      by_cases he : d = 16
      · have HM := Aside0.mk (unhexM_bad (l := l) (i := k) (by rw [HL.out]; exact hlt) HG.out (by rw [← HX'.out, ← HD.out]; exact he))
        have HE := Aside0.mk he
        have heb : (d == 16) = true := beq_iff_eq.2 he
        clear he
        go_wp2
        refine bodyPost_ret (v := .tuple #[.slice none 0 0, .agg #[.int .i64 k, .int .i64 3]]) (by simp [results, Try.results24, go_sem, c0, c1, f0, f1]) rfl ?_
        refine ⟨.slice none 0 0, by rw [HM.out], by rw [HM.out]; exact OB.nil _ _, ?_⟩
        exact ((HB0.out.trans (HB.out.mono HB0.out.size)).setCell (Nat.le_refl _) _).setCell (Nat.le_refl _) _
      · have heb : (d == 16) = false := beq_eq_false_iff_ne.2 he
        have hd2 : d < 16 := by omega
        have hgood : ∀ j, j < k + 1 → dig (l.getD j 0) ≠ 16 := by
          intro j hj
          rcases Nat.lt_or_ge j k with h | h
          · exact HG.out j h
          · obtain rfl : j = k := by omega
            rw [← HX'.out, ← HD.out]; exact he
        have HGOOD := Aside0.mk hgood
        have HE := Aside0.mk he
        clear he hgood
        by_cases hp : k % 2 = 0
        · have hpb : ((k : Int) % 2 == 0) = true := by rw [beq_iff_eq]; omega
          have HU := Aside0.mk (unB_even l k hp)
          have HUL := Aside0.mk (unB_length l k)
          have HP := Aside0.mk hp
          clear hp
          go_wp2_with ((with_reducible refine gate_dst (N := 27) rfl ?_); at_builtin; refine app_bytes (W0 := w0) w0.heap.size rfl (.tmp 23) (.tmp 26) rfl _ (unB l k) [d * 16] (some ⟨w1.heap.size, 0, none⟩) 1 1 rfl rfl (HO.out.alloc _) (block_reads [d * 16] (heap_alloc_new w1 (.cells (nums .u8 [d * 16]).toArray 5)) (by simp)) (below_alloc HB.out _) (below_alloc HB.out _).size ?aL ?_; (case aL => rw [HUL.out]; omega); intro v1 w2 ho hb _ _; have HO1 := Aside0.mk ho; have HB1 := Aside0.mk hb; clear ho hb)
          go_roundw
          case rel => exact ⟨k + 1, by omega, by go_num, HGOOD, ⟨by rw [HU.out, ← HX'.out, ← HD.out, Int.mul_comm 16 d]; exact HO1.out⟩, HB1⟩
          case measure => simp [intOf]; omega
        · have hpb : ((k : Int) % 2 == 0) = false := by rw [beq_eq_false_iff_ne]; omega
          have hp1 : k % 2 = 1 := by omega
          have HU := Aside0.mk (unB_odd l k hp1)
          have HLast := Aside0.mk (unB_last l k hp1)
          have hul := unB_length l k
          have e1 : ((k : Int) / 2).toNat = k / 2 := by omega
          have e2 : 0 ≤ (k : Int) / 2 := by omega
          obtain ⟨g, cap, rfl, hg1, hg2⟩ := HO.out.form (by omega)
          have e3 : (k : Int) / 2 < ((unB l k).length : Int) := by omega
          obtain ⟨hc, hf⟩ := own_at HO.out ((k : Int) / 2) e2 e3
          have hps := own_store HO.out ((k : Int) / 2) (16 * dig (l.getD (k - 1) 0) + d)
          rw [e1] at hc hf hps
          have hrd : rd (unB l k) ((k : Int) / 2) = 16 * dig (l.getD (k - 1) 0) := by unfold rd; rw [e1, HLast.out]
          rw [hrd] at hc
          have hq := dig_range (l.getD (k - 1) 0)
          have hq2 := HG.out (k - 1) (by omega)
          obtain ⟨q, hqe⟩ : ∃ q, q = dig (l.getD (k - 1) 0) := ⟨_, rfl⟩
          rw [← hqe] at hc hps hq hq2
          obtain ⟨hq0, hq1⟩ := hq
          have hor := u8_or16 (a := q) (b := d) hq0 (by omega) hd0 hd2
          have HPS := Aside0.mk hps
          have HG1 := Aside0.mk hg1
          have HQ := Aside0.mk hqe
          have HQ2 := Aside0.mk hq2
          have HUL := Aside0.mk hul
          have HP := Aside0.mk hp
          have HP1 := Aside0.mk hp1
          clear hps hg1 hg2 hqe hrd hul hp hp1 hq2
          go_wp2
          go_roundw
          case rel =>
            refine ⟨k + 1, by omega, by go_num, HGOOD, ⟨?_⟩, ⟨HB.out.setCell HG1.out _⟩⟩
            rw [HU.out, ← HX'.out, ← HD.out, ← HQ.out]
            unfold OB
            rw [List.length_set]
            exact HPS.out.1
          case measure => simp [intOf]; omega
    · obtain rfl : k = s.size := by omega
      have HG' : Aside0 (∀ j, j < l.length → dig (l.getD j 0) ≠ 16) := ⟨by rw [HL.out]; exact HG.out⟩
      by_cases hp : s.size % 2 = 1
      · have hpb : ((s.size : Int) % 2 == 1) = true := by rw [beq_iff_eq]; omega
        have HM := Aside0.mk (unhexM_odd HG'.out (by rw [HL.out]; exact hp))
        have HP := Aside0.mk hp
        clear hp
        go_wp2
        refine bodyPost_ret (v := .tuple #[.slice none 0 0, .agg #[.int .i64 s.size, .int .i64 3]]) (by simp [results, Try.results24, go_sem, c0, c1, f0, f1]) rfl ?_
        refine ⟨.slice none 0 0, by rw [HM.out, HL.out], by rw [HM.out]; exact OB.nil _ _, ?_⟩
        exact ((HB0.out.trans (HB.out.mono HB0.out.size)).setCell (Nat.le_refl _) _).setCell (Nat.le_refl _) _
      · have hpb : ((s.size : Int) % 2 == 1) = false := by rw [beq_eq_false_iff_ne]; omega
        have HM := Aside0.mk (unhexM_good HG'.out (by rw [HL.out]; exact hp))
        have HP := Aside0.mk hp
        clear hp
        go_wp2
        refine bodyPost_ret (v := .tuple #[u4, .agg #[.int .i64 0, .int .i64 0]]) (by simp [results, Try.results24, go_sem, c0, c1, f0, f1]) rfl ?_
        refine ⟨u4, by rw [HM.out], ?_, ?_⟩
        · rw [HM.out, HL.out]
          have h1 : OB wr w.heap.size u4 (unB l s.size) := HO.out.lower HB0.out.size
          exact own_far2 h1 HO.out HZ.out
        · exact ((HB0.out.trans (HB.out.mono HB0.out.size)).setCell (Nat.le_refl _) _).setCell (Nat.le_refl _) _
end Go.Proofs.Ytdagpeencafheaa.Oct
