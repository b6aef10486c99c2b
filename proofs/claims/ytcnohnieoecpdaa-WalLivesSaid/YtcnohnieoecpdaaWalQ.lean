import Derived.Test.YtcnohnieoecpdaaWalP
import Derived.Test.YtcnohnieoecpdaaTapeE
/- WalWrites. -/
namespace Go.Proofs.Ytcnohnieoecpdaa.Oct
open Go.RowKit Go.Proofs.YtcnohnieoecpdaaW.PrintWords Go.Proofs.Ytcnohnieoecpdaa.M
set_option linter.unusedVariables false
set_option linter.unusedSimpArgs false
/-- bytes of one's own above a mark, and one of them stored -/
theorem own_put {W : World} {top m c : Nat} {A : Option Addr} (h : ∃ zs : List Int, zs.length = m ∧ Bytes zs ∧ OB W top (.slice A m c) zs) {k : Nat} (hk : k < m) :
    ∃ g z, A = some ⟨g, 0, none⟩ ∧ top ≤ g ∧ 0 ≤ z ∧ z < 256 ∧ W.cell? ⟨g, k, none⟩ = some (.int .u8 z) ∧ W.frozen? ⟨g, k, none⟩ = false ∧ ∀ x, Byte x → ∃ zs : List Int, zs.length = m ∧ Bytes zs ∧ OB (W.setCell ⟨g, k, none⟩ (.int .u8 x)) top (.slice A m c) zs := by
  obtain ⟨zs, hl, hb, ho⟩ := h
  have ho' : W.ownsRow top 5 1 (.slice A m c) m (nums .u8 zs) := by unfold OB at ho; rwa [hl] at ho
  rcases ho'.2 with ⟨_, h0⟩ | ⟨g, cap, cur, hv, hg, _⟩
  · omega
  injection hv with hA _ hcap
  subst hA
  obtain ⟨hc, hf⟩ := own_at ho' (k : Int) (by omega) (by omega)
  rw [Int.toNat_natCast] at hc hf
  obtain ⟨A', c', e, hr⟩ := ho.reads
  injection e with e1 e2 e3
  obtain ⟨ad, e, hz⟩ := C_byte hr (k := k) (by omega)
  rw [← e1] at e
  injection e with e
  subst e
  rw [Addr.add_lit, Nat.zero_add] at hz
  refine ⟨g, zs.getD k 0, rfl, hg, (hb.getD k).1, (hb.getD k).2, hz, hf, fun x hx => ⟨zs.set k x, by simp [hl], fun y hy => ?_, ?_⟩⟩
  · rcases List.mem_or_eq_of_mem_set hy with h | h
    · exact hb y h
    · rw [h]; exact hx
  · have hp := own_store ho' (k : Int) x
    rw [Int.toNat_natCast] at hp
    have := hp.1
    unfold OB
    rw [List.length_set, hl]
    exact this
theorem xor_ff {z : Int} (h0 : 0 ≤ z) (h : z < 256) : ∃ y, Go.bits .xor .u8 z 255 = y ∧ Byte y := by
  refine ⟨_, u8_xor h0 h (by decide) (by decide), by omega, ?_⟩
  have := xor_byte (a := z.toNat) (b := (255 : Int).toNat) (by omega) (by decide)
  omega
theorem readL_bytes {b : List Int} (hb : Bytes b) : ∀ at_, ∀ r ∈ (readL at_ b).map (·.2), Bytes r.2 := by
  induction hm : b.length using Nat.strongRecOn generalizing b with
  | _ m ih =>
    intro at_ r hr
    by_cases h : isR b
    · have h4 := h.2.2.2.1
      rw [readL_yes h, List.map_cons] at hr
      rcases List.mem_cons.1 hr with rfl | hr
      · exact (isR_back hb h).2.2.1
      · exact ih (b.drop (7 + lenR b)).length (by rw [List.length_drop]; omega) (hb.drop _) rfl _ r hr
    · rw [readL_no h] at hr; cases hr
set_option maxRecDepth 20000 in
set_option maxHeartbeats 8000000 in
theorem wwrites_calls (w : World) (r : Rc) (b : List Int) (A B : Option Addr) (c d : Nat) (hr : Kd.C (Kd.int .u8) w A r.2.length r.2) (hrb : Bytes r.2) (h : Kd.C (Kd.int .u8) w B b.length b) (hb : Bytes b) (hrl : r.2.length ≤ 140737488355328) (hcd : b.length ≤ d) :
    Calls Try.prog 3 #[.agg #[.int .i64 r.1, .slice A r.2.length c], .slice B b.length d] w (Yes w) := by
  have HR := Aside0.mk hr
  have HRB := Aside0.mk hrb
  have HX := Aside0.mk h
  have HXB := Aside0.mk hb
  have hbl : b.length ≤ 9223372036854775807 := h.2.1
  have HCD := Aside0.mk hcd
  clear hr hrb h hb hcd
  have HWL : ∀ W, Below w.heap.size w W → Aside0 (Calls Try.prog 12 #[.agg #[.int .i64 r.1, .slice A r.2.length c]] W (RetWW W (writeR r))) := fun W hW => ⟨wwrite_calls W r A c (Kd.C_below HR.out hW) HRB.out⟩
  have HWM : ∀ W, Below w.heap.size w W → Aside0 (Calls Try.prog 13 #[.agg #[.int .i64 r.1, .slice A r.2.length c]] W (RetWW W (writeR r))) := fun W hW => ⟨rwrite_calls W r A c (Kd.C_below HR.out hW) HRB.out⟩
  have HWL := Aside0.mk HWL
  have HWM := Aside0.mk HWM
  obtain ⟨ys, hys⟩ : ∃ ys, ys = (writeR r).1 := ⟨_, rfl⟩
  obtain ⟨er, her⟩ : ∃ er, er = (writeR r).2 := ⟨_, rfl⟩
  have HYE := Aside0.mk (And.intro hys her)
  clear hys her
  obtain ⟨k, a⟩ := r
  dsimp only at HYE HR HRB HWL HWM hrl ⊢
  obtain ⟨w0, hw0⟩ : ∃ w0, w0 = w.alloc (.cells #[.int .i64 k, .slice A a.length c] 24) := ⟨_, rfl⟩
  have HW0 := Aside0.mk hw0
  have HB0 : Aside0 (Below w.heap.size w w0) := ⟨by rw [hw0]; exact below_alloc (Below.refl _ _) _⟩
  have HH0 : Aside0 (w0.heap[w.heap.size]? = some (.cells #[.int .i64 k, .slice A a.length c] 24 (0, 0))) := ⟨by rw [hw0]; exact heap_alloc_new w _⟩
  clear hw0
  have hcase : (3000 : Int) < (a.length : Int) ∨ (¬ (3000 : Int) < (a.length : Int) ∧ (4000 : Int) < (b.length : Int)) ∨ (¬ (3000 : Int) < (a.length : Int) ∧ ¬ (4000 : Int) < (b.length : Int)) := by omega
  rcases hcase with h1 | ⟨h1, h2⟩ | ⟨h1, h2⟩
  · go_enter Try.func3, Try.ntmps3
    go_wp2_with fail
    rw [← HW0.out]
    refine (alive_calls _).mono ?_
    rintro e w3 ⟨rfl, hb3⟩
    have HB3 := Aside0.mk (HB0.out.trans (hb3.mono HB0.out.size))
    clear hb3
    go_wp2_with fail
    go_ret
    exact ⟨rfl, HB3.out⟩
  · go_enter Try.func3, Try.ntmps3
    go_wp2_with fail
    rw [← HW0.out]
    refine (alive_calls _).mono ?_
    rintro e w3 ⟨rfl, hb3⟩
    have HB3 := Aside0.mk (HB0.out.trans (hb3.mono HB0.out.size))
    clear hb3
    go_wp2_with fail
    go_ret
    exact ⟨rfl, HB3.out⟩
  · go_enter Try.func3, Try.ntmps3
    go_wp2_with fail
    rw [← HW0.out]
    refine (HWL.out _ HB0.out).out.mono ?_
    rintro e w1 ⟨v1, rfl, hq1, hb1⟩
    rw [← HYE.out.1] at hq1
    rw [← HYE.out.2]
    obtain ⟨A1, c1, rfl, _⟩ := hq1.form
    have HQ1 := Aside0.mk hq1
    have HB1 := Aside0.mk (HB0.out.trans (hb1.mono HB0.out.size))
    have HH1 := Aside0.mk (blk_keep HH0.out hb1)
    obtain ⟨t0, t1, _, _⟩ := two_cells' HH1.out
    clear hq1 hb1
    go_wp2_with fail
    refine (HWM.out _ HB1.out).out.mono ?_
    rintro e w2 ⟨v2, rfl, hq2, hb2⟩
    rw [← HYE.out.1] at hq2
    rw [← HYE.out.2]
    obtain ⟨A2, c2, rfl, _⟩ := hq2.form
    have HQ2 := Aside0.mk hq2
    have HQ12 := Aside0.mk (HQ1.out.below hb2)
    have HB2 := Aside0.mk (HB1.out.trans (hb2.mono HB1.out.size))
    clear hq2 hb2 t0 t1
    go_wp2_with fail
    refine (copy_calls w2 B d b (Kd.C_below HX.out HB2.out) (by omega)).mono ?_
    rintro e w3 ⟨v3, rfl, ho3, hb3⟩
    obtain ⟨A3, c3, rfl, hr3⟩ := ho3.reads
    have hc3 : b.length ≤ c3 := by obtain ⟨_, _, e, hc, _⟩ := (QB.of_OB ho3).form; injection e with _ _ e; omega
    have HO3 := Aside0.mk ho3
    have HQ13 := Aside0.mk (HQ12.out.below hb3)
    have HQ23 := Aside0.mk (HQ2.out.below hb3)
    have HB3 := Aside0.mk (HB2.out.trans (hb3.mono HB2.out.size))
    have HL3 := Aside0.mk (show ∀ k, (Value.slice A1 ys.length c1).ownBlock = some k → k < w2.heap.size from fun k e => (HQ12.out.block e).2)
    have HL3' := Aside0.mk (show ∀ k, (Value.slice A2 ys.length c2).ownBlock = some k → k < w2.heap.size from fun k e => (HQ2.out.block e).2)
    have HRD := Aside0.mk (wread_calls w3 b A3 c3 hc3 hr3 HXB.out (by omega))
    clear ho3 hb3 hr3 hc3
    go_wp2_with fail
    refine HRD.out.mono ?_
    rintro e w4 ⟨v4, rfl, hw4, hb4⟩
    obtain ⟨A4, c4, rfl⟩ := hw4.form
    have HRW := Aside0.mk hw4
    have HO4 : Aside0 (∃ zs : List Int, zs.length = b.length ∧ Bytes zs ∧ OB w4 w2.heap.size (.slice A3 b.length c3) zs) := ⟨b, rfl, HXB.out, HO3.out.below hb4⟩
    have HQ14 := Aside0.mk (HQ13.out.below hb4)
    have HQ24 := Aside0.mk (HQ23.out.below hb4)
    have HB4 := Aside0.mk (HB3.out.trans (hb4.mono HB3.out.size))
    have HOL : Aside0 (∀ k, (Value.slice A3 b.length c3).ownBlock = some k → w2.heap.size ≤ k ∧ k < w3.heap.size) := ⟨fun k e => ⟨own_base HO3.out k e, own_lt HO3.out k e⟩⟩
    obtain ⟨l, hl⟩ : ∃ l, l = (readL 0 b).map (·.2) := ⟨_, rfl⟩
    obtain ⟨en, hen⟩ : ∃ en, en = endL (readL 0 b) := ⟨_, rfl⟩
    have hll : l.length ≤ 4000 := by have := readL_len b 0; rw [hl, List.length_map]; omega
    have HLB : Aside0 (∀ r ∈ l, Bytes r.2) := ⟨by rw [hl]; exact readL_bytes HXB.out 0⟩
    have HRD2 : Aside0 (∀ W, Below w.heap.size w W → Calls Try.prog 16 #[.slice B b.length d] W (RetRead W b)) := ⟨fun W hW => rread_calls W b B d HCD.out (Kd.C_below HX.out hW) HXB.out (by omega)⟩
    rw [← hl] at HRW ⊢
    rw [← hen]
    have HLE := Aside0.mk (And.intro hl hen)
    clear hl hen
    clear hw4 hb4 HRD HO3 HQ13 HQ23 HQ12
    go_wp2_with fail
    obtain ⟨n, hn⟩ : ∃ n, n = b.length := ⟨_, rfl⟩
    rw [← hn] at HO4 HOL h2 hbl
    rw [← hn]
    have HNN := Aside0.mk hn
    clear hn
    go_loopw [12] (fun v12 wr => ∃ j : Nat, j ≤ n ∧ v12 = .int .i64 j ∧ Aside0 (∃ zs : List Int, zs.length = n ∧ Bytes zs ∧ OB wr w2.heap.size (.slice A3 n c3) zs) ∧ Aside0 (w4.grownBy wr (Value.slice A3 n c3).ownBlock)) (fun v _ => n - (intOf v).toNat)
    case atStart => exact ⟨0, by omega, rfl, HO4, ⟨⟨rfl, rfl, rfl, Nat.le_refl _, fun _ _ _ => rfl⟩⟩⟩
    case round =>
      obtain ⟨j, hj, rfl, HV, HG⟩ := hrel
      by_cases hlt : j < n
      · obtain ⟨g, z, rfl, hg, hz0, hz1, hc, hf, hset⟩ := own_put HV.out hlt
        obtain ⟨y, hy, hyb⟩ := xor_ff hz0 hz1
        have HS := Aside0.mk (hset y hyb)
        have HGS : Aside0 (w4.grownBy (wr.setCell ⟨g, j, none⟩ (.int .u8 y)) (Value.slice (some ⟨g, 0, none⟩) n c3).ownBlock) := ⟨World.grownBy.trans HG.out (grown_set wr g j (.int .u8 y))⟩
        have hlt' : (j : Int) < (n : Int) := by omega
        clear hset hg hyb hz0 hz1
        go_wp2_with fail
        exact ⟨⟨j + 1, by omega, by go_num, HS, HGS⟩, by simp [intOf]; omega⟩
      · have hlt' : ¬ (j : Int) < (n : Int) := by omega
        have HBr := Aside0.mk (HB4.out.grown HG.out HB4.out.size (fun k e => Nat.le_trans HB2.out.size (HOL.out k e).1))
        have HQ1r := Aside0.mk (HQ14.out.move (fun k e => HG.out.block k (HQ14.out.block e).2 (fun e2 => by have := (HOL.out k e2.symm).1; have := HL3.out k e; omega)))
        have HQ2r := Aside0.mk (HQ24.out.move (fun k e => HG.out.block k (HQ24.out.block e).2 (fun e2 => by have := (HOL.out k e2.symm).1; have := HL3'.out k e; omega)))
        have HRWr := Aside0.mk (HRW.out.move (fun k h1 h2 => HG.out.block k h2 (fun e2 => by have := (HOL.out k e2.symm).2; omega)))
        have HRD3 := Aside0.mk (HRD2.out _ HBr.out)
        clear hlt hj
        rw [← HNN.out] at HRD3
        go_wp2_with fail
        refine HRD3.out.mono ?_
        rintro e w5 ⟨v5, rfl, hw5, hb5⟩
        rw [← HLE.out.1] at hw5
        rw [← HLE.out.2]
        obtain ⟨A5, c5, rfl⟩ := hw5.form
        have HB5 := Aside0.mk (HBr.out.trans (hb5.mono HBr.out.size))
        have HQ15 := Aside0.mk (HQ1r.out.below hb5)
        have HQ25 := Aside0.mk (HQ2r.out.below hb5)
        have HC4 := Aside0.mk (Kd.C_below (RW.C HRWr.out (by omega)) hb5)
        have HC5 := Aside0.mk (RW.C hw5 (by omega))
        clear hw5 hb5 HRD3
        go_wp2_with fail
        refine (alive_calls _).mono ?_
        rintro e w6 ⟨rfl, hb6⟩
        have HB6 := Aside0.mk (HB5.out.trans (hb6.mono HB5.out.size))
        have cv1 := (HQ15.out.below hb6).string
        have cv2 := (HQ25.out.below hb6).string
        have HSM := Aside0.mk (same_calls w6 l l A4 A5 c4 c5 (Kd.C_below HC4.out hb6) (Kd.C_below HC5.out hb6) HLB.out HLB.out)
        rw [show sameB l l = true by simp [sameB]] at HSM
        obtain ⟨S, hS⟩ : ∃ S, S = strOfNums ys := ⟨_, rfl⟩
        rw [← hS] at cv1 cv2
        have n2 : (S.toList == S.toList) = true := beq_self_eq_true _
        have n3 : (er == er) = true := beq_self_eq_true _
        have n4 : (en == en) = true := beq_self_eq_true _
        clear hb6 hS
        go_wp2_with fail
        refine HSM.out.mono ?_
        rintro e w7 ⟨rfl, hb7⟩
        have HB7 := Aside0.mk (HB6.out.trans (hb7.mono HB6.out.size))
        clear hb7 cv1 cv2
        go_wp2_with fail
        go_ret
        exact ⟨rfl, HB7.out⟩
end Go.Proofs.Ytcnohnieoecpdaa.Oct
