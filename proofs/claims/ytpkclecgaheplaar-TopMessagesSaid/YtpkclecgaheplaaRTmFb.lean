import Derived.Test.YtpkclecgaheplaaRTmFa
import Derived.Test.YtpkclecgaheplaaROwn
namespace Go.Proofs.YtpkclecgaheplaaR.Oct
open Go.RowKit Go.Proofs.YtpkclecgaheplaaRW.PrintWords Go.Proofs.YtpkclecgaheplaaR.M
set_option linter.unusedVariables false
set_option linter.unusedSimpArgs false
theorem QB.clip {W : World} {base n c : Nat} {A : Option Addr} {xs : List Int} (h : QB W base (.slice A n c) xs) : QB W base (.slice A n n) xs := by
  refine ⟨h.1, ?_⟩
  rcases h.2 with ⟨e, h0⟩ | ⟨g, off, cap, cur, e, hb, hh, hc, hm, h6, h7⟩
  · injection e with e1 e2 e3
    subst e1 e2
    exact .inl ⟨rfl, h0⟩
  · injection e with e1 e2 e3
    subst e1 e2 e3
    exact .inr ⟨g, off, xs.length, cur, rfl, hb, hh, Nat.le_refl _, Nat.le_trans hc hm, by omega, h7⟩
theorem QB.C {W : World} {base n c : Nat} {A : Option Addr} {xs : List Int} (h : QB W base (.slice A n c) xs) : Kd.C (Kd.int .u8) W A xs.length xs := by
  obtain ⟨A', c', e, _, _, hr⟩ := h.form
  cases e
  exact hr
theorem QB.string {W : World} {base : Nat} {v : Value} {xs : List Int} (h : QB W base v xs) : (convert 28 9 v).run Try.prog W = .ok (.string (strOfNums xs)) W := by
  obtain ⟨A, c, rfl, _, _, hr⟩ := h.form
  exact Kd.C_string Try.underlying28 Try.underlying5 Try.underlying9 hr
theorem block_nums {W : World} {b : Nat} {e : TypeId} {fr : Nat × Nat} (k : IntKind) (xs : List Int) (h : W.heap[b]? = some (.cells (nums k xs).toArray e fr)) (hm : xs.length ≤ 9223372036854775807) : Kd.C (Kd.int k) W (some ⟨b, 0, none⟩) xs.length xs := by
  refine Kd.C_of_reads (d := 0) ⟨rfl, hm, fun _ => ⟨_, rfl, fun j hj => ?_⟩⟩
  have hadd : (⟨b, 0, none⟩ : Addr).add j = ⟨b, j, none⟩ := add_plain b j
  rw [hadd, cell_of_row W b j _ e fr h]
  simp [nums, List.getElem?_eq_getElem hj, List.getD_eq_getElem?_getD]
theorem putM_four {v : Int} (h0 : 0 ≤ v) (h : v < 4294967296) : putM v 4 = (beB v 4, 0) := by
  unfold putM
  rw [if_neg (by omega), if_neg (by simp; omega)]
  rfl
def RetFW (w : World) (r : List Int × Int) (e : Ending) (w' : World) : Prop := ∃ v, e = .returned (.tuple #[v, .int .i64 r.2]) ∧ QB w' w.heap.size v r.1 ∧ Below w.heap.size w w'
set_option maxHeartbeats 1000000 in
theorem fwrite_bad (w : World) (f : FR) (A : Option Addr) (c : Nat) (hl : f.d.length ≤ 9223372036854775807) (hp : ¬ f.mayP) : Calls Try.prog 7 #[.agg #[.int .u32 f.s, .int .i64 f.q, .int .i64 f.k, .slice A f.d.length c]] w (RetFW w f.write) := by
  have HV := Aside0.mk (FR.write_bad hp)
  have HM := Aside0.mk (mayB_no hp)
  clear hp
  go_enter Try.func7, Try.ntmps7
  go_wp2_with fail
  refine (may_calls _ f A c hl).mono ?_
  rw [HM.out]
  rintro e w1 ⟨rfl, hb⟩
  have HB := Aside0.mk ((below_alloc (Below.refl w.heap.size w) (frC f A c)).trans (hb.mono (by simp [frC])))
  clear hb
  go_wp2_with fail
  go_ret2
  rw [HV.out]
  exact ⟨_, rfl, QB.nil _ _, HB.out⟩
set_option maxHeartbeats 4000000 in
theorem fwrite_good (w : World) (f : FR) (A : Option Addr) (c : Nat) (hr : Kd.C (Kd.int .u8) w A f.d.length f.d) (hx : f.ok) (hp : f.mayP) : Calls Try.prog 7 #[.agg #[.int .u32 f.s, .int .i64 f.q, .int .i64 f.k, .slice A f.d.length c]] w (RetFW w f.write) := by
  have HV := Aside0.mk (FR.write_good hp)
  have HM := Aside0.mk (mayB_yes hp)
  have HR := Aside0.mk hr
  have HX := Aside0.mk (FR.front_bytes hx.2.2.2)
  have hl : f.d.length ≤ 9223372036854775807 := hr.2.1
  have hd : f.d.length ≤ 256 := hp.2.2.2
  have hs := hx.1
  have hq := hp.2.1
  have hk := hp.2.2.1
  have HFR := Aside0.mk (FR.front_len f)
  have HFT : Aside0 (f.front = beB f.s 4 ++ twosB [f.q, f.k, (f.d.length : Int)] ++ f.d) := ⟨by unfold FR.front twosB; simp⟩
  obtain ⟨s, q, k, d⟩ := f
  dsimp only at hs hq hk hd hl HFT HR
  obtain ⟨hs1, hs2⟩ := hs
  obtain ⟨hq1, hq2⟩ := hq
  obtain ⟨hk1, hk2⟩ := hk
  have HP4 := Aside0.mk (putM_four hs1 hs2)
  have HSM := Aside0.mk (sumOf_range (FR.front ⟨s, q, k, d⟩))
  have HPS := Aside0.mk (putM_four HSM.out.1 HSM.out.2)
  clear hr hx hp
  go_enter Try.func7, Try.ntmps7
  go_wp2_with fail
  obtain ⟨w0, hw0⟩ : ∃ w0, w0 = w.alloc (.cells #[.int .u32 s, .int .i64 q, .int .i64 k, .slice A d.length c] 39) := ⟨_, rfl⟩
  have HB0 : Aside0 (Below w.heap.size w w0) := ⟨by rw [hw0]; exact below_alloc (Below.refl _ _) _⟩
  have HH0 : Aside0 (w0.heap[w.heap.size]? = some (.cells #[.int .u32 s, .int .i64 q, .int .i64 k, .slice A d.length c] 39 (0, 0))) := ⟨by rw [hw0]; exact heap_alloc_new w _⟩
  rw [← hw0]
  clear hw0
  refine (may_calls _ ⟨s, q, k, d⟩ A c hl).mono ?_
  rw [HM.out]
  rintro e w1 ⟨rfl, hb1⟩
  have HB1 := Aside0.mk hb1
  have HH1 := Aside0.mk (blk_keep HH0.out hb1)
  obtain ⟨c0, c1, c2, c3, f0, f1, f2, f3⟩ := four_cells HH1.out
  clear hb1
  go_wp2_with fail
  refine (put_calls _ s 4 hs1 (by omega)).mono ?_
  rintro e w2 ⟨v, rfl, ho, hb2⟩
  rw [HP4.out] at ho ⊢
  obtain ⟨A2, d2, rfl, _⟩ := ho.reads
  have HO2 := Aside0.mk ho
  have HH2 := Aside0.mk (blk_keep HH1.out hb2)
  have HS12 := Aside0.mk hb2.size
  have HB1LE : Aside0 (w.heap.size ≤ w1.heap.size) := ⟨Nat.le_trans HB0.out.size HB1.out.size⟩
  have HB2 := Aside0.mk ((HB0.out.trans (HB1.out.mono HB0.out.size)).trans (hb2.mono (Nat.le_trans HB0.out.size HB1.out.size)))
  clear c0 c1 c2 c3 f0 f1 f2 f3 ho hb2
  obtain ⟨c0, c1, c2, c3, f0, f1, f2, f3⟩ := four_cells HH2.out
  go_wp2_with fail
  obtain ⟨fr, hfr⟩ : ∃ fr, fr = FR.front ⟨s, q, k, d⟩ := ⟨_, rfl⟩
  rw [← hfr] at HV HX HFR HFT HSM HPS
  obtain ⟨x4, hx4⟩ : ∃ x4, x4 = beB s 4 := ⟨_, rfl⟩
  have hx4l : x4.length = 4 := by rw [hx4]; exact beB_length _ _
  rw [← hx4] at HFT HO2 ⊢
  have HSZ : Aside0 (w.heap.size + 1 ≤ w1.heap.size) := ⟨(Array.getElem?_eq_some_iff.1 HH1.out).1⟩
  have HSZ2 : Aside0 (w.heap.size + 1 ≤ w2.heap.size) := ⟨(Array.getElem?_eq_some_iff.1 HH2.out).1⟩
  have HCL : Aside0 (∀ W, Below (w.heap.size + 1) w2 W → W.cell? ⟨w.heap.size, 1, none⟩ = some (.int .i64 q) ∧ W.cell? ⟨w.heap.size, 2, none⟩ = some (.int .i64 k) ∧ W.cell? ⟨w.heap.size, 3, none⟩ = some (.slice A d.length c)) := ⟨fun W hW => by
    obtain ⟨_, e1, e2, e3, _⟩ := four_cells ((hW.block w.heap.size (Nat.lt_succ_self _)).trans HH2.out)
    exact ⟨e1, e2, e3⟩⟩
  have HTW : Aside0 (∀ (W : World) (g : Nat), Below w2.heap.size w2 W → W.heap[g]? = some (.cells #[.int .i64 q, .int .i64 k, .int .i64 (d.length : Int)] 3 (0, 0)) → w2.heap.size ≤ g → Calls Try.prog 20 #[.slice A2 x4.length d2, .slice (some ⟨g, 0, none⟩) 3 3] W (fun e W' => ∃ A3 d3, e = .returned (.slice A3 (x4 ++ twosB [q, k, (d.length : Int)]).length d3) ∧ OB W' w1.heap.size (.slice A3 (x4 ++ twosB [q, k, (d.length : Int)]).length d3) (x4 ++ twosB [q, k, (d.length : Int)]) ∧ Below w1.heap.size w2 W')) := ⟨fun W g hbw hgg hge => by
    have h12 : w1.heap.size ≤ w2.heap.size := HS12.out
    refine (two_calls _ w1.heap.size (.slice A2 x4.length d2) x4 [q, k, (d.length : Int)] _ 3 (HO2.out.below hbw) (Nat.le_trans h12 hbw.size) (block_nums .i64 [q, k, (d.length : Int)] hgg (by simp)) (by simp) (by omega) (fun ad e e2 => ?_)).mono ?_
    · injection e with e
      have := own_lt HO2.out _ e2.symm
      rw [← e] at this
      dsimp only at this
      omega
    · rintro e W' ⟨v', rfl, ho', hg, _⟩
      obtain ⟨A3, d3, rfl, _⟩ := ho'.reads
      exact ⟨A3, d3, rfl, ho', (hbw.mono h12).grown hg (Nat.le_trans h12 hbw.size) (fun k hk => own_base HO2.out k hk)⟩⟩
  obtain ⟨y, hy⟩ : ∃ y, y = x4 ++ twosB [q, k, (d.length : Int)] := ⟨_, rfl⟩
  rw [← hy] at HFT HTW
  have hyl : y.length ≤ 10 := by rw [hy, List.length_append, twosB_len, hx4l]; simp
  have HYL := Aside0.mk hyl
  have HDL := Aside0.mk hd
  clear hfr hx4 c0 c1 c2 c3 f0 f1 f2 f3 hy hyl hx4l hd
  obtain ⟨c1, c2, c3⟩ := HCL.out _ (Below.refl _ _)
  go_wp2_with fail
  go_region_held_law (fun W => W.cell? ⟨w.heap.size, 1, none⟩ = some (.int .i64 q) ∧ W.cell? ⟨w.heap.size, 2, none⟩ = some (.int .i64 k) ∧ W.cell? ⟨w.heap.size, 3, none⟩ = some (.slice A d.length c))
    (first | exact HCL.out _ (below_drew (Below.refl _ _)) | exact HCL.out _ (below_drew ((Below.refl _ _).alloc HSZ2.out _)) | exact HCL.out _ ((below_drew (Below.refl _ _)).alloc HSZ2.out _) | exact HCL.out _ ((Below.refl _ _).alloc HSZ2.out _) | exact HCL.out _ (Aside0.out (by assumption)))
    (first
     | (go_at_call 20; refine (HTW.out _ _ (by first | exact below_drew (below_alloc (Below.refl _ _) _) | exact below_alloc (below_drew (Below.refl _ _)) _ | exact below_alloc (Below.refl _ _) _) (by exact heap_alloc_new _ _) (Nat.le_refl _)).mono ?_; rintro e wA ⟨A3, d3, rfl, ho3, hb3⟩; have HO3 := Aside0.mk ho3; have HB3 := Aside0.mk hb3; have HBA : Aside0 (Below (w.heap.size + 1) w2 wA) := ⟨hb3.mono HSZ.out⟩; clear ho3 hb3)
     | (refine step_q w1.heap.size rfl (.tmp 27) (.tmp 29) rfl (.slice A3 y.length d3) y d A d.length c rfl rfl rfl (QB.of_OB HO3.out) (Kd.C_below HR.out (HB2.out.trans (HB3.out.mono HB1LE.out))) (Nat.le_trans HS12.out HB3.out.size) (by have := HYL.out; have := HDL.out; omega) ?_; intro v4 w4 ho4 hg4 _; rw [← HFT.out] at ho4; obtain ⟨A4, d4, rfl, hd4, hm4, _⟩ := ho4.form; have HDM := Aside0.mk (And.intro hd4 hm4); clear hd4 hm4; have HO4 := Aside0.mk ho4; have HB4 := Aside0.mk (HB3.out.grown hg4 (Nat.le_trans HS12.out HB3.out.size) (fun k hk => own_base HO3.out k hk)); have HBB : Aside0 (Below (w.heap.size + 1) w2 w4) := ⟨HB4.out.mono HSZ.out⟩; clear ho4 hg4))
  all_goals
    have HR4 : Aside0 (Kd.C (Kd.int .u8) w4 A4 fr.length fr) := ⟨HO4.out.C⟩
    have HB4W := Aside0.mk (HB2.out.trans (HB4.out.mono HB1LE.out))
    clear c1 c2 c3
    go_wp2_with fail
    refine (sum_calls _ A4 d4 fr HR4.out HX.out).mono ?_
    rintro e w5 ⟨rfl, rfl⟩
    obtain ⟨sm, hsm⟩ : ∃ sm, sm = sumOf fr := ⟨_, rfl⟩
    rw [← hsm] at HSM HPS HV ⊢
    obtain ⟨hsm0, hsm1⟩ := HSM.out
    clear hsm
    go_wp2_with fail
    refine (put_calls _ sm 4 hsm0 (by omega)).mono ?_
    rintro e w6 ⟨v6, rfl, ho6, hb6⟩
    rw [HPS.out] at ho6 ⊢
    obtain ⟨A6, d6, rfl, hr6⟩ := ho6.reads
    have HR6 := Aside0.mk hr6
    have HO6 := Aside0.mk ((HO4.out.below hb6).clip)
    have HB6 := Aside0.mk (HB4W.out.trans (hb6.mono HB4W.out.size))
    have n1 : (fr.length : Int) ≤ (d4 : Int) := by have := HDM.out.1; omega
    have n0 : (0 : Int) ≤ (fr.length : Int) := by omega
    have HB1S := Aside0.mk (Nat.le_trans (Nat.le_trans HS12.out HB4.out.size) hb6.size)
    clear ho6 hb6 hr6
    obtain ⟨z, hz⟩ : ∃ z, z = beB sm 4 := ⟨_, rfl⟩
    have HZL : Aside0 (z.length = 4) := ⟨by rw [hz]; exact beB_length _ _⟩
    rw [← hz] at HR6 HV ⊢
    clear hz
    have HLL : Aside0 (fr.length + z.length ≤ 140737488355328) := ⟨by have h1 := HFR.out; have h2 := HZL.out; have h3 := HDL.out; omega⟩
    go_wp2_with ((with_reducible refine gate_dst (N := 45) rfl ?_); at_builtin; refine app_q w1.heap.size rfl (.tmp 43) (.tmp 44) rfl (.slice A4 fr.length fr.length) fr z A6 z.length d6 rfl rfl rfl HO6.out HR6.out HB1S.out HLL.out ?_; intro v7 w7 ho7 hg7 _; have HO7 := Aside0.mk ho7; have HB7 := Aside0.mk (HB6.out.grown hg7 HB6.out.size (fun k hk => Nat.le_trans HB1LE.out (HO6.out.block hk).1)); clear ho7 hg7)
    go_ret2
    rw [HV.out]
    exact ⟨_, rfl, HO7.out.lower HB1LE.out, HB7.out⟩
theorem fwrite_calls (w : World) (f : FR) (A : Option Addr) (c : Nat) (hr : Kd.C (Kd.int .u8) w A f.d.length f.d) (hx : f.ok) : Calls Try.prog 7 #[.agg #[.int .u32 f.s, .int .i64 f.q, .int .i64 f.k, .slice A f.d.length c]] w (RetFW w f.write) := by
  by_cases hp : f.mayP
  · exact fwrite_good w f A c hr hx hp
  · exact fwrite_bad w f A c hr.2.1 hp
end Go.Proofs.YtpkclecgaheplaaR.Oct
