import Derived.Test.YtmdipdjgfdjhoaaFrameP
/- The two laws that ask the document's own answer. -/
namespace Go.Proofs.Ytmdipdjgfdjhoaa.Oct
open Go.RowKit Go.Proofs.YtmdipdjgfdjhoaaW.PrintWords Go.Proofs.Ytmdipdjgfdjhoaa.M
set_option linter.unusedVariables false
set_option linter.unusedSimpArgs false
set_option maxHeartbeats 8000000 in
theorem fwrites_calls (w : World) (f : FR) (A : Option Addr) (c : Nat) (hr : Kd.C (Kd.int .u8) w A f.d.length f.d) (ho : f.ok) :
    Calls Try.prog 3 #[.agg #[.int .u32 f.s, .int .i64 f.q, .int .i64 f.k, .slice A f.d.length c]] w (Yes w) := by
  have HR := Aside0.mk hr
  have HO := Aside0.mk ho
  have hl : f.d.length ≤ 9223372036854775807 := hr.2.1
  clear hr ho
  by_cases h2 : 2000 < (f.d.length : Int)
  · have HBX : Aside0 (Below w.heap.size w (w.alloc (frC f A c))) := ⟨below_alloc (Below.refl _ _) _⟩
    go_enter Try.func3, Try.ntmps3
    go_wp2_with fail
    refine (falive_calls _).mono ?_
    rintro e w3 ⟨rfl, hb3⟩
    have HB3 := Aside0.mk (HBX.out.trans (hb3.mono HBX.out.size))
    clear hb3
    go_wp2_with fail
    go_ret
    exact ⟨rfl, HB3.out⟩
  · have h2' : (f.d.length : Int) ≤ 2000 := by omega
    clear h2
    go_enter Try.func3, Try.ntmps3
    go_wp2_with fail
    obtain ⟨w1, hw1⟩ : ∃ w1, w1 = (w.alloc (.cells #[.int .u32 f.s, .int .i64 f.q, .int .i64 f.k, .slice A f.d.length c] 25)).alloc (.cells #[.int .u32 f.s, .int .i64 f.q, .int .i64 f.k, .slice A f.d.length c] 25) := ⟨_, rfl⟩
    obtain ⟨p, hp⟩ : ∃ p, p = w.heap.size + 1 := ⟨_, rfl⟩
    have hb1 : Below w.heap.size w w1 := by rw [hw1]; exact below_alloc (below_alloc (Below.refl _ _) _) _
    have hh1 : w1.heap[w.heap.size]? = some (.cells #[.int .u32 f.s, .int .i64 f.q, .int .i64 f.k, .slice A f.d.length c] 25 (0, 0)) := by rw [hw1]; exact blk_keep (heap_alloc_new w _) (below_alloc (Below.refl _ _) _)
    have hh2 : w1.heap[p]? = some (.cells #[.int .u32 f.s, .int .i64 f.q, .int .i64 f.k, .slice A f.d.length c] 25 (0, 0)) := by rw [hw1]; exact heap_alloc_new' _ _ _ (by rw [hp]; simp)
    rw [← hw1, ← hp]
    have HPL : Aside0 (w.heap.size < p ∧ p < w1.heap.size) := ⟨by omega, (Array.getElem?_eq_some_iff.1 hh2).1⟩
    have HB1 := Aside0.mk hb1
    have HH1 := Aside0.mk hh1
    have HH2 := Aside0.mk hh2
    clear hw1 hp hb1 hh1 hh2
    refine (copy_calls _ A c f.d (Kd.C_below HR.out HB1.out) (by omega)).mono ?_
    rintro e w2 ⟨v, rfl, ho2, hb2⟩
    obtain ⟨A2, c2, rfl, _⟩ := ho2.reads
    have hh2 := blk_keep HH2.out hb2
    obtain ⟨t0, t1, t2, t3, r0, r1, r2, r3⟩ := four_cells hh2
    have hh3 : (w2.setCell ⟨p, 3, none⟩ (.slice A2 f.d.length c2)).heap[p]? = some (.cells #[.int .u32 f.s, .int .i64 f.q, .int .i64 f.k, .slice A2 f.d.length c2] 25 (0, 0)) := by rw [heap_set _ hh2]; rfl
    obtain ⟨u0, u1, u2, u3, v0, v1, v2, v3⟩ := four_cells hh3
    have HO3 : Aside0 (OB (w2.setCell ⟨p, 3, none⟩ (.slice A2 f.d.length c2)) w1.heap.size (.slice A2 f.d.length c2) f.d) := ⟨own_move ho2 (fun k hk => Below.heap_setCell _ ⟨p, 3, none⟩ _ k (fun e => by have := own_base ho2 k hk; have h := HPL.out; have e : k = p := e; omega))⟩
    have HH13 : Aside0 ((w2.setCell ⟨p, 3, none⟩ (.slice A2 f.d.length c2)).heap[w.heap.size]? = some (.cells #[.int .u32 f.s, .int .i64 f.q, .int .i64 f.k, .slice A f.d.length c] 25 (0, 0))) := ⟨(Below.heap_setCell _ ⟨p, 3, none⟩ _ w.heap.size (fun e => by have h := HPL.out; have e : w.heap.size = p := e; omega)).trans (blk_keep HH1.out hb2)⟩
    have HH23 := Aside0.mk hh3
    have hb2' := HB1.out.trans (hb2.mono HB1.out.size)
    have HB3 := Aside0.mk (hb2'.setCell (p := ⟨p, 3, none⟩) (Nat.le_of_lt HPL.out.1) (.slice A2 f.d.length c2))
    clear hb2 hb2' hh2 hh3 ho2
    go_wp2_with fail
    obtain ⟨w3, hw3⟩ : ∃ w3, w3 = w2.setCell ⟨p, 3, none⟩ (.slice A2 f.d.length c2) := ⟨_, rfl⟩
    rw [← hw3] at HO3 HH13 HH23 HB3 ⊢
    clear hw3 t0 t1 t2 t3 r0 r1 r2 r3 u0 u1 u2 u3 v0 v1 v2 v3
    obtain ⟨_, _, e3, hr3⟩ := HO3.out.reads
    cases e3
    refine (fwrite_calls _ f A2 c2 hr3 HO.out).mono ?_
    rintro e w4 ⟨v, rfl, hq, hb⟩
    have HB4 := Aside0.mk (HB3.out.trans (hb.mono HB3.out.size))
    have HH14 := Aside0.mk (blk_keep HH13.out hb)
    have HH24 := Aside0.mk (blk_keep HH23.out hb)
    have HO4 := Aside0.mk (HO3.out.below hb)
    have HQ4 := Aside0.mk hq
    obtain ⟨A4, c4, rfl, _⟩ := hq.form
    obtain ⟨t0, t1, t2, t3, r0, r1, r2, r3⟩ := four_cells HH14.out
    clear hq hb hr3
    go_wp2_with fail
    refine (rwrite_calls _ f A c (Kd.C_below HR.out HB4.out) HO.out).mono ?_
    rintro e w5 ⟨v, rfl, hq, hb⟩
    have HB5 := Aside0.mk (HB4.out.trans (hb.mono HB4.out.size))
    have HH15 := Aside0.mk (blk_keep HH14.out hb)
    have HH25 := Aside0.mk (blk_keep HH24.out hb)
    have HO5 := Aside0.mk (HO4.out.below hb)
    have HQ45 := Aside0.mk (HQ4.out.below hb)
    have HQ5 := Aside0.mk hq
    obtain ⟨A5, c5, rfl, _⟩ := hq.form
    clear hq hb t0 t1 t2 t3 r0 r1 r2 r3
    go_wp2_with fail
    refine (falive_calls _).mono ?_
    rintro e w6 ⟨rfl, hb⟩
    have HB6 := Aside0.mk (HB5.out.trans (hb.mono HB5.out.size))
    have g1 := (HQ45.out.below hb).string
    have g2 := (HQ5.out.below hb).string
    obtain ⟨S, hS⟩ : ∃ S, S = strOfNums f.write.1 := ⟨_, rfl⟩
    rw [← hS] at g1 g2
    have hE : (S.toList == S.toList) = true := beq_self_eq_true _
    obtain ⟨t0, t1, t2, t3, r0, r1, r2, r3⟩ := four_cells (blk_keep HH15.out hb)
    obtain ⟨u0, u1, u2, u3, v0, v1, v2, v3⟩ := four_cells (blk_keep HH25.out hb)
    have HO6 := Aside0.mk (HO5.out.below hb)
    obtain ⟨er, her⟩ : ∃ er, er = f.write.2 := ⟨_, rfl⟩
    rw [← her]
    have hE2 : (er == er) = true := beq_self_eq_true _
    clear hb hS her
    go_wp2_with fail
    obtain ⟨_, _, e6, hr6⟩ := HO6.out.reads
    cases e6
    refine (same_calls _ f f A2 A c2 c hr6 (Kd.C_below HR.out HB6.out) HO.out.2.2.2 HO.out.2.2.2).mono ?_
    rw [same_self]
    rintro e w7 ⟨rfl, hb7⟩
    have HB7 := Aside0.mk (HB6.out.trans (hb7.mono HB6.out.size))
    clear hb7
    go_wp2_with fail
    go_ret
    exact ⟨rfl, HB7.out⟩
/-- bytes of one's own above a mark, and one of them stored -/
theorem own_put {W : World} {top m c : Nat} {A : Option Addr} (h : ∃ zs : List Int, zs.length = m ∧ Bytes zs ∧ OB W top (.slice A m c) zs) {k : Nat} (hk : k < m) :
    ∃ g z, A = some ⟨g, 0, none⟩ ∧ top ≤ g ∧ 0 ≤ z ∧ z < 256 ∧ W.cell? ⟨g, k, none⟩ = some (.int .u8 z) ∧ W.frozen? ⟨g, k, none⟩ = false ∧ ∀ x, Byte x → ∃ zs : List Int, zs.length = m ∧ Bytes zs ∧ OB (W.setCell ⟨g, k, none⟩ (.int .u8 x)) top (.slice A m c) zs := by
  obtain ⟨zs, hl, hb, ho⟩ := h
  have ho' : W.ownsRow top 5 1 (.slice A m c) m (nums .u8 zs) := by unfold OB at ho; rwa [hl] at ho
  rcases ho'.2 with ⟨_, h0⟩ | ⟨g, cap, cur, hv, hg, _⟩
  · omega
  injection hv with hA _ hcap
  subst hA
  obtain ⟨hc, hf⟩ := own_at ho' (k : Int) (by omega) (by omega)
  rw [Int.toNat_natCast] at hc hf
  obtain ⟨A', c', e, hr⟩ := ho.reads
  injection e with e1 e2 e3
  obtain ⟨ad, e, hz⟩ := C_byte hr (k := k) (by omega)
  rw [← e1] at e
  injection e with e
  subst e
  rw [Addr.add_lit, Nat.zero_add] at hz
  refine ⟨g, zs.getD k 0, rfl, hg, (hb.getD k).1, (hb.getD k).2, hz, hf, fun x hx => ⟨zs.set k x, by simp [hl], fun y hy => ?_, ?_⟩⟩
  · rcases List.mem_or_eq_of_mem_set hy with h | h
    · exact hb y h
    · rw [h]; exact hx
  · have hp := own_store ho' (k : Int) x
    rw [Int.toNat_natCast] at hp
    have := hp.1
    unfold OB
    rw [List.length_set, hl]
    exact this
theorem xor_ff {z : Int} (h0 : 0 ≤ z) (h : z < 256) : ∃ y, Go.bits .xor .u8 z 255 = y ∧ Byte y := by
  refine ⟨_, u8_xor h0 h (by decide) (by decide), by omega, ?_⟩
  have := xor_byte (a := z.toNat) (b := (255 : Int).toNat) (by omega) (by decide)
  omega
set_option maxHeartbeats 8000000 in
theorem freads_calls (w : World) (A : Option Addr) (c : Nat) (b : List Int) (hr : Kd.C (Kd.int .u8) w A b.length b) (hx : Bytes b) (hc : b.length ≤ c) :
    Calls Try.prog 4 #[.slice A b.length c] w (Yes w) := by
  have HR := Aside0.mk hr
  have HX := Aside0.mk hx
  have HC := Aside0.mk hc
  have hl : b.length ≤ 9223372036854775807 := hr.2.1
  clear hr hx hc
  by_cases h2 : 2000 < (b.length : Int)
  · go_enter Try.func4, Try.ntmps4
    go_wp2_with fail
    refine (falive_calls _).mono ?_
    rintro e w3 ⟨rfl, hb3⟩
    have HB3 := Aside0.mk hb3
    clear hb3
    go_wp2_with fail
    go_ret
    exact ⟨rfl, HB3.out⟩
  · have h2' : (b.length : Int) ≤ 2000 := by omega
    have HRO := Aside0.mk (readF_ok HX.out)
    obtain ⟨rf, hrf⟩ : ∃ rf, rf = readF b := ⟨_, rfl⟩
    have HRF := Aside0.mk hrf
    rw [← hrf] at HRO
    obtain ⟨f, er⟩ := rf
    clear h2 hrf
    go_enter Try.func4, Try.ntmps4
    go_wp2_with fail
    refine (copy_calls _ A c b HR.out (by omega)).mono ?_
    rintro e w1 ⟨v, rfl, ho1, hb1⟩
    obtain ⟨A1, c1, rfl, hr1⟩ := ho1.reads
    have hle1 : b.length ≤ c1 := by
      obtain ⟨A', c', e, hh, _⟩ := ho1.rb
      cases e
      exact hh
    have HO1 := Aside0.mk ho1
    have HB1 := Aside0.mk hb1
    have HR1 := Aside0.mk hr1
    have HLE1 := Aside0.mk hle1
    have HOL : Aside0 (∀ k, (Value.slice A1 b.length c1).ownBlock = some k → w.heap.size ≤ k ∧ k < w1.heap.size) := ⟨fun k hk => ⟨own_base ho1 k hk, own_lt ho1 k hk⟩⟩
    clear ho1 hb1 hr1 hle1
    go_wp2_with fail
    refine (fread_calls _ A1 c1 b HR1.out HX.out HLE1.out).mono ?_
    rw [← HRF.out]
    rintro e w2 ⟨A2, c2, rfl, ho2, hb2⟩
    dsimp only at ho2 ⊢
    have HO2 := Aside0.mk ho2
    have hbx := below_alloc (Below.refl w2.heap.size w2) (.cells #[.int .u32 f.s, .int .i64 f.q, .int .i64 f.k, .slice A2 f.d.length c2] 25)
    have HO1' := Aside0.mk ((HO1.out.below hb2).below hbx)
    have HQ2 := Aside0.mk (QB.of_OB (ho2.below hbx))
    have HH2 := Aside0.mk (heap_alloc_new w2 (.cells #[.int .u32 f.s, .int .i64 f.q, .int .i64 f.k, .slice A2 f.d.length c2] 25))
    have hb12 := HB1.out.trans (hb2.mono HB1.out.size)
    have HB2 := Aside0.mk (hb12.trans (hbx.mono hb12.size))
    have HPL : Aside0 (w1.heap.size ≤ w2.heap.size) := ⟨hb2.size⟩
    clear ho2 hb2 hbx hb12
    go_wp2_with fail
    obtain ⟨p, hp⟩ : ∃ p, p = w2.heap.size := ⟨_, rfl⟩
    obtain ⟨w3, hw3⟩ : ∃ w3, w3 = w2.alloc (.cells #[.int .u32 f.s, .int .i64 f.q, .int .i64 f.k, .slice A2 f.d.length c2] 25) := ⟨_, rfl⟩
    rw [← hw3] at HO1' HQ2 HH2 HB2 ⊢
    rw [← hp] at HH2 HPL ⊢
    have HV : Aside0 (∃ zs : List Int, zs.length = b.length ∧ Bytes zs ∧ OB w3 w.heap.size (.slice A1 b.length c1) zs) := ⟨b, rfl, HX.out, HO1'.out⟩
    clear hw3 hp HO1 HO1' HO2 HR1 HLE1
    obtain ⟨m, hm⟩ : ∃ m, m = b.length := ⟨_, rfl⟩
    have HM := Aside0.mk hm
    rw [← hm] at HV HOL h2' hl
    have hml : m ≤ 2000 := by omega
    rw [← hm]
    clear hm
    go_loopw [6] (fun v8 wq => ∃ k : Nat, k ≤ m ∧ v8 = .int .i64 k ∧ Aside0 (Below w.heap.size w wq) ∧ Aside0 (wq.heap[p]? = some (.cells #[.int .u32 f.s, .int .i64 f.q, .int .i64 f.k, .slice A2 f.d.length c2] 25 (0, 0))) ∧ Aside0 (QB wq w1.heap.size (.slice A2 f.d.length c2) f.d) ∧ Aside0 (∃ zs : List Int, zs.length = m ∧ Bytes zs ∧ OB wq w.heap.size (.slice A1 m c1) zs)) (fun v _ => m - (intOf v).toNat)
    case atStart => exact ⟨0, by omega, rfl, HB2, HH2, HQ2, HV⟩
    case round =>
      obtain ⟨k, hk, rfl, HBq, HHq, HQq, HVq⟩ := hrel
      by_cases hlt2 : k < m
      · obtain ⟨g, z, rfl, hg, hz0, hz1, hcc, hf, hset⟩ := own_put HVq.out hlt2
        obtain ⟨y, hy, hyb⟩ := xor_ff hz0 hz1
        have hgl := (HOL.out g rfl).2
        have HX2 := Aside0.mk (hset y hyb)
        have HBX := Aside0.mk (HBq.out.setCell (p := ⟨g, k, none⟩) hg (.int .u8 y))
        have HHX : Aside0 ((wr.setCell ⟨g, k, none⟩ (.int .u8 y)).heap[p]? = some (.cells #[.int .u32 f.s, .int .i64 f.q, .int .i64 f.k, .slice A2 f.d.length c2] 25 (0, 0))) := ⟨(Below.heap_setCell _ ⟨g, k, none⟩ _ p (fun e => by have h := HPL.out; have e : p = g := e; omega)).trans HHq.out⟩
        have HQX : Aside0 (QB (wr.setCell ⟨g, k, none⟩ (.int .u8 y)) w1.heap.size (.slice A2 f.d.length c2) f.d) := ⟨HQq.out.move (fun j hj => Below.heap_setCell _ ⟨g, k, none⟩ _ j (fun e => by have h := (HQq.out.block hj).1; have e : j = g := e; omega))⟩
        clear hset hyb hgl
        go_wp2_with fail
        refine ⟨⟨k + 1, by omega, by go_num, HBX, HHX, HQX, HX2⟩, by simp [intOf]; omega⟩
      · have hkm' : ¬ (k : Int) < (m : Int) := by omega
        clear hlt2 HVq HV HB2 HH2 HQ2 hk
        go_wp2_with fail
        rw [HM.out]
        refine (rread_calls _ A c b (Kd.C_below HR.out HBq.out) HX.out HC.out).mono ?_
        rw [← HRF.out]
        rintro e w5 ⟨A5, c5, rfl, hq5, hb5⟩
        dsimp only at hq5 ⊢
        have hbx := below_alloc (Below.refl w5.heap.size w5) (.cells #[.int .u32 f.s, .int .i64 f.q, .int .i64 f.k, .slice A5 f.d.length c5] 25)
        have hb6 := HBq.out.trans (hb5.mono HBq.out.size)
        have HB6 := Aside0.mk (hb6.trans (hbx.mono hb6.size))
        have HH6 := Aside0.mk (heap_alloc_new w5 (.cells #[.int .u32 f.s, .int .i64 f.q, .int .i64 f.k, .slice A5 f.d.length c5] 25))
        have HQ6 := Aside0.mk (hq5.below hbx)
        have HH6' := Aside0.mk (blk_keep (blk_keep HHq.out hb5) hbx)
        have HQ6' := Aside0.mk ((HQq.out.below hb5).below hbx)
        clear hq5 hbx hb5 hb6
        go_wp2_with fail
        refine (falive_calls _).mono ?_
        rintro e w7 ⟨rfl, hb7⟩
        have HB7 := Aside0.mk (HB6.out.trans (hb7.mono HB6.out.size))
        have HQ7 := Aside0.mk (HQ6.out.below hb7)
        have HQ7' := Aside0.mk (HQ6'.out.below hb7)
        obtain ⟨t0, t1, t2, t3, r0, r1, r2, r3⟩ := four_cells (blk_keep HH6.out hb7)
        obtain ⟨u0, u1, u2, u3, v0, v1, v2, v3⟩ := four_cells (blk_keep HH6'.out hb7)
        have hE2 : (er == er) = true := beq_self_eq_true _
        clear hb7
        go_wp2_with fail
        refine (same_calls _ f f A2 A5 c2 c5 HQ7'.out.C HQ7.out.C HRO.out.2.2.2 HRO.out.2.2.2).mono ?_
        rw [same_self]
        rintro e w8 ⟨rfl, hb8⟩
        have HB8 := Aside0.mk (HB7.out.trans (hb8.mono HB7.out.size))
        clear hb8
        go_wp2_with fail
        go_ret
        exact ⟨rfl, HB8.out⟩
end Go.Proofs.Ytmdipdjgfdjhoaa.Oct
