import Derived.Test.YtdagpeencafheaaOctS
/- OctSplits. -/
namespace Go.Proofs.Ytdagpeencafheaa.Oct
open Go.RowKit Go.Proofs.YtdagpeencafheaaW.PrintWords Go.Proofs.Ytdagpeencafheaa.M
set_option linter.unusedVariables false
set_option linter.unusedSimpArgs false
/-- bytes of one's own above a mark, and one of them stored -/
theorem own_put {W : World} {top m c : Nat} {A : Option Addr} (h : ∃ zs : List Int, zs.length = m ∧ Bytes zs ∧ OB W top (.slice A m c) zs) {k : Nat} (hk : k < m) :
    ∃ g z, A = some ⟨g, 0, none⟩ ∧ top ≤ g ∧ 0 ≤ z ∧ z < 256 ∧ W.cell? ⟨g, k, none⟩ = some (.int .u8 z) ∧ W.frozen? ⟨g, k, none⟩ = false ∧ ∀ x, Byte x → ∃ zs : List Int, zs.length = m ∧ Bytes zs ∧ OB (W.setCell ⟨g, k, none⟩ (.int .u8 x)) top (.slice A m c) zs := by
  obtain ⟨zs, hl, hb, ho⟩ := h
  have ho' : W.ownsRow top 5 1 (.slice A m c) m (nums .u8 zs) := by unfold OB at ho; rwa [hl] at ho
  rcases ho'.2 with ⟨_, h0⟩ | ⟨g, cap, cur, hv, hg, _⟩
  · omega
  injection hv with hA _ hcap
  subst hA
  obtain ⟨hc, hf⟩ := own_at ho' (k : Int) (by omega) (by omega)
  rw [Int.toNat_natCast] at hc hf
  obtain ⟨A', c', e, hr⟩ := ho.reads
  injection e with e1 e2 e3
  obtain ⟨ad, e, hz⟩ := C_byte hr (k := k) (by omega)
  rw [← e1] at e
  injection e with e
  subst e
  rw [Addr.add_lit, Nat.zero_add] at hz
  refine ⟨g, zs.getD k 0, rfl, hg, (hb.getD k).1, (hb.getD k).2, hz, hf, fun x hx => ⟨zs.set k x, by simp [hl], fun y hy => ?_, ?_⟩⟩
  · rcases List.mem_or_eq_of_mem_set hy with h | h
    · exact hb y h
    · rw [h]; exact hx
  · have hp := own_store ho' (k : Int) x
    rw [Int.toNat_natCast] at hp
    have := hp.1
    unfold OB
    rw [List.length_set, hl]
    exact this
theorem xor_ff {z : Int} (h0 : 0 ≤ z) (h : z < 256) : ∃ y, Go.bits .xor .u8 z 255 = y ∧ Byte y := by
  refine ⟨_, u8_xor h0 h (by decide) (by decide), by omega, ?_⟩
  have := xor_byte (a := z.toNat) (b := (255 : Int).toNat) (by omega) (by decide)
  omega
set_option maxHeartbeats 8000000 in
theorem splits_calls (w : World) (A : Option Addr) (c : Nat) (b : List Int) (hr : Kd.C (Kd.int .u8) w A b.length b) (hx : Bytes b) (hc : b.length ≤ c) :
    Calls Try.prog 9 #[.slice A b.length c] w (Yes w) := by
  have HR := Aside0.mk hr
  have HX := Aside0.mk hx
  have HC := Aside0.mk hc
  have hl : b.length ≤ 9223372036854775807 := hr.2.1
  clear hr hx hc
  by_cases h2 : 4000 < (b.length : Int)
  · go_enter Try.func9, Try.ntmps9
    go_wp2_with fail
    refine (alive_calls _).mono ?_
    rintro e w3 ⟨rfl, hb3⟩
    have HB3 := Aside0.mk hb3
    clear hb3
    go_wp2_with fail
    go_ret
    exact ⟨rfl, HB3.out⟩
  · have h2' : (b.length : Int) ≤ 4000 := by omega
    have HL2 : Aside0 (b.length ≤ 4000) := ⟨by omega⟩
    clear h2
    obtain ⟨f1, hf1⟩ : ∃ f1, f1 = (splitE b).1 := ⟨_, rfl⟩
    obtain ⟨f2, hf2⟩ : ∃ f2, f2 = (splitE b).2 := ⟨_, rfl⟩
    obtain ⟨ls, hls⟩ : ∃ ls, ls = splitP b := ⟨_, rfl⟩
    have HF := Aside0.mk (And.intro hf1 (And.intro hf2 hls))
    clear hf1 hf2 hls
    go_enter Try.func9, Try.ntmps9
    go_wp2_with fail
    refine (copy_calls _ A c b HR.out (by omega)).mono ?_
    rintro e w1 ⟨v, rfl, ho1, hb1⟩
    have hle : ∃ A1 c1, v = .slice A1 b.length c1 ∧ b.length ≤ c1 ∧ Kd.C (Kd.int .u8) w1 A1 b.length b := by
      obtain ⟨A1, c1, rfl, hr1⟩ := ho1.reads
      refine ⟨A1, c1, rfl, ?_, hr1⟩
      rcases ho1.2 with ⟨e, h0⟩ | ⟨g, cap, cur, e, _, _, hcap, _⟩
      · injection e with _ e1 e2; omega
      · injection e with _ e1 e2; omega
    obtain ⟨A1, c1, rfl, hle1, hr1⟩ := hle
    have HO1 := Aside0.mk ho1
    have HB1 := Aside0.mk hb1
    have HR1 := Aside0.mk hr1
    have HLE1 := Aside0.mk hle1
    have HOL : Aside0 (∀ k, (Value.slice A1 b.length c1).ownBlock = some k → w.heap.size ≤ k ∧ k < w1.heap.size) := ⟨fun k hk => ⟨own_base ho1 k hk, own_lt ho1 k hk⟩⟩
    clear ho1 hb1 hr1 hle1
    go_wp2_with fail
    refine (split_calls _ b A1 c1 HLE1.out HR1.out HX.out (by have := HL2.out; omega)).mono ?_
    rintro e w2 ⟨r, rfl, hrw, hb2⟩
    rw [← HF.out.1, ← HF.out.2.1]
    rw [← HF.out.2.2] at hrw
    obtain ⟨Ax, cx, rfl, _⟩ := hrw.reads
    have hbx := below_alloc (Below.refl w2.heap.size w2) (.cells #[.int .i64 f1, .int .i64 f2] 42)
    have HO1' := Aside0.mk ((HO1.out.below hb2).below hbx)
    have HRW := Aside0.mk (hrw.below hbx)
    have HH2 := Aside0.mk (heap_alloc_new w2 (.cells #[.int .i64 f1, .int .i64 f2] 42))
    have hb12 := HB1.out.trans (hb2.mono HB1.out.size)
    have HB2 := Aside0.mk (hb12.trans (hbx.mono hb12.size))
    have HPL : Aside0 (w1.heap.size ≤ w2.heap.size) := ⟨hb2.size⟩
    clear hrw hb2 hbx hb12
    go_wp2_with fail
    obtain ⟨p, hp⟩ : ∃ p, p = w2.heap.size := ⟨_, rfl⟩
    obtain ⟨w3, hw3⟩ : ∃ w3, w3 = w2.alloc (.cells #[.int .i64 f1, .int .i64 f2] 42) := ⟨_, rfl⟩
    rw [← hw3] at HO1' HRW HH2 HB2 ⊢
    rw [← hp] at HH2 HPL ⊢
    have HV : Aside0 (∃ zs : List Int, zs.length = b.length ∧ Bytes zs ∧ OB w3 w.heap.size (.slice A1 b.length c1) zs) := ⟨b, rfl, HX.out, HO1'.out⟩
    clear hw3 hp HO1 HO1' HR1 HLE1
    obtain ⟨m, hm⟩ : ∃ m, m = b.length := ⟨_, rfl⟩
    have HM := Aside0.mk hm
    rw [← hm] at HV HOL h2' hl
    have hml : m ≤ 4000 := by omega
    rw [← hm]
    clear hm
    go_loopw [6] (fun v8 wq => ∃ k : Nat, k ≤ m ∧ v8 = .int .i64 k ∧ Aside0 (Below w.heap.size w wq) ∧ Aside0 (wq.heap[p]? = some (.cells #[.int .i64 f1, .int .i64 f2] 42 (0, 0))) ∧ Aside0 (Rows_ wq w1.heap.size (.slice Ax ls.length cx) ls) ∧ Aside0 (∃ zs : List Int, zs.length = m ∧ Bytes zs ∧ OB wq w.heap.size (.slice A1 m c1) zs)) (fun v _ => m - (intOf v).toNat)
    case atStart => exact ⟨0, by omega, rfl, HB2, HH2, HRW, HV⟩
    case round =>
      obtain ⟨k, hk, rfl, HBq, HHq, HQq, HVq⟩ := hrel
      by_cases hlt2 : k < m
      · obtain ⟨g, z, rfl, hg, hz0, hz1, hcc, hf, hset⟩ := own_put HVq.out hlt2
        obtain ⟨y, hy, hyb⟩ := xor_ff hz0 hz1
        have hgl := (HOL.out g rfl).2
        have HX2 := Aside0.mk (hset y hyb)
        have HBX := Aside0.mk (HBq.out.setCell (p := ⟨g, k, none⟩) hg (.int .u8 y))
        have HHX : Aside0 ((wr.setCell ⟨g, k, none⟩ (.int .u8 y)).heap[p]? = some (.cells #[.int .i64 f1, .int .i64 f2] 42 (0, 0))) := ⟨(Below.heap_setCell _ ⟨g, k, none⟩ _ p (fun e => by have h := HPL.out; have e : p = g := e; omega)).trans HHq.out⟩
        have HQX : Aside0 (Rows_ (wr.setCell ⟨g, k, none⟩ (.int .u8 y)) w1.heap.size (.slice Ax ls.length cx) ls) := ⟨HQq.out.move (fun j hj _ => Below.heap_setCell _ ⟨g, k, none⟩ _ j (fun e => by have e : j = g := e; omega))⟩
        clear hset hyb hgl
        go_wp2_with fail
        refine ⟨⟨k + 1, by omega, by go_num, HBX, HHX, HQX, HX2⟩, by simp [intOf]; omega⟩
      · have hkm' : ¬ (k : Int) < (m : Int) := by omega
        clear hlt2 HVq HV HB2 HH2 HRW hk
        go_wp2_with fail
        rw [HM.out]
        refine (rsplit_calls _ b A c HC.out (Kd.C_below HR.out HBq.out) HX.out (by have := HL2.out; omega)).mono ?_
        rintro e w5 ⟨r, rfl, hrw, hb5⟩
        rw [← HF.out.1, ← HF.out.2.1]
        rw [← HF.out.2.2] at hrw
        obtain ⟨Ay, cy, rfl, _⟩ := hrw.reads
        have hbx := below_alloc (Below.refl w5.heap.size w5) (.cells #[.int .i64 f1, .int .i64 f2] 42)
        have hb6 := HBq.out.trans (hb5.mono HBq.out.size)
        have HB6 := Aside0.mk (hb6.trans (hbx.mono hb6.size))
        have HH6 := Aside0.mk (heap_alloc_new w5 (.cells #[.int .i64 f1, .int .i64 f2] 42))
        have HQ6 := Aside0.mk (hrw.below hbx)
        have HH6' := Aside0.mk (blk_keep (blk_keep HHq.out hb5) hbx)
        have HQ6' := Aside0.mk ((HQq.out.below hb5).below hbx)
        clear hrw hbx hb5 hb6
        go_wp2_with fail
        refine (alive_calls _).mono ?_
        rintro e w7 ⟨rfl, hb7⟩
        have HB7 := Aside0.mk (HB6.out.trans (hb7.mono HB6.out.size))
        obtain ⟨_, _, ey, hry⟩ := (HQ6.out.below hb7).reads
        cases ey
        obtain ⟨_, _, ex, hrx⟩ := (HQ6'.out.below hb7).reads
        cases ex
        have HRX := Aside0.mk hrx
        have HRY := Aside0.mk hry
        have HH7 := Aside0.mk (blk_keep HH6.out hb7)
        have HH7' := Aside0.mk (blk_keep HH6'.out hb7)
        clear hb7 hrx hry
        go_wp2_with fail
        refine (same_calls _ ls Ax Ay cx cy HRX.out HRY.out).mono ?_
        rintro e w8 ⟨rfl, hb8⟩
        have HB8 := Aside0.mk (HB7.out.trans (hb8.mono HB7.out.size))
        obtain ⟨t0, t1, _⟩ := two_cells (blk_keep HH7.out hb8) (W' := w8)
        obtain ⟨u0, u1, _⟩ := two_cells (blk_keep HH7'.out hb8) (W' := w8)
        clear hb8
        go_wp2_with fail
        go_ret
        exact ⟨by simp, HB8.out⟩
end Go.Proofs.Ytdagpeencafheaa.Oct
