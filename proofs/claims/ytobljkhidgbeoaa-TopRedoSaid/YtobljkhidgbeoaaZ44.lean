
import Derived.Test.YtobljkhidgbeoaaZ43
/- Add. -/
namespace Go.Proofs.Ytobljkhidgbeoaa.Oct
open Go.RowKit Go.Proofs.YtobljkhidgbeoaaW.PrintWords Go.Proofs.Ytobljkhidgbeoaa.M
set_option linter.unusedVariables false
set_option linter.unusedSimpArgs false
theorem below_kx {base : Nat} {W W' : World} {ex : Nat → Prop} (hb : Below W.heap.size W W') (h : base ≤ W.heap.size) : KX base W ex W' := KX.of_below hb h
def RetAdd (base : Nat) (w : World) (q p : Nat) (ex : Nat → Prop) (r : TS × List Rc × Int) (e : Ending) (w' : World) : Prop := e = .returned (.int .i64 r.2.2) ∧ LgAt base w' q p r.1 r.2.1 ex ∧ KX base w ex w'
set_option maxRecDepth 20000 in
set_option maxHeartbeats 16000000 in
theorem add_calls (w : World) (base q p : Nat) (t : TS) (ls : List Rc) (ex : Nat → Prop) (r : Rc) (A : Option Addr) (c : Nat) (f : Bool) (h : LgAt base w q p t ls ex) (hx : ∀ k, ex k → k < w.heap.size) (hbs : base ≤ w.heap.size) (hr : ∀ W, KX base w ex W → Kd.C (Kd.int .u8) W A r.2.length r.2) (hcap : r.2.length ≤ c) (hb : Bytes r.2) (hll : ls.length ≤ 1000000) :
    Calls Try.prog 11 #[.pointer (some ⟨q, 0, none⟩), .agg #[.int .i64 r.1, .slice A r.2.length c], .bool f] w (RetAdd base w q p ex (addP t ls r f)) := by
  have HRK := Aside0.mk hr
  have HR := Aside0.mk (hr w (KX.of_below (Below.refl _ _) hbs))
  have HCAP := Aside0.mk hcap
  have HB := Aside0.mk hb
  have HX := Aside0.mk hx
  have HBS := Aside0.mk hbs
  have HLL := Aside0.mk hll
  obtain ⟨n, hn⟩ : ∃ n, n = r.2.length := ⟨_, rfl⟩
  obtain ⟨b0, hb0⟩ : ∃ b0, b0 = w.heap.size := ⟨_, rfl⟩
  obtain ⟨w0, hw0⟩ : ∃ w0, w0 = w.alloc (.cells #[.int .i64 r.1, .slice A n c] 50) := ⟨_, rfl⟩
  have HW0 := Aside0.mk hw0
  have HB0 : Aside0 (Below w.heap.size w w0) := ⟨by rw [hw0]; exact below_alloc (Below.refl _ _) _⟩
  have HH0 : Aside0 (w0.heap[b0]? = some (.cells #[.int .i64 r.1, .slice A n c] 50 (0, 0))) := ⟨by rw [hw0, hb0]; exact heap_alloc_new w _⟩
  have HBB := Aside0.mk hb0
  have HN := Aside0.mk hn
  -- the box is not the log's
  have HT0 : Aside0 (LgAt base w0 q p t ls (fun k => ex k ∨ k = b0)) := ⟨by
    obtain ⟨F, G, h1, h2, h3, h4, h5⟩ := h
    have hsz : w.heap.size ≤ w0.heap.size := HB0.out.size
    exact ⟨F, G, h1.below HB0.out, h2.below HB0.out, h3, fun k hk => ⟨(h4 k hk).1, Nat.lt_of_lt_of_le (h4 k hk).2.1 hsz, fun e => e.elim (h4 k hk).2.2 (fun e => by have := (h4 k hk).2.1; omega)⟩, fun k hk => ⟨(h5 k hk).1, Nat.lt_of_lt_of_le (h5 k hk).2.1 hsz, fun e => e.elim (h5 k hk).2.2 (fun e => by have := (h5 k hk).2.1; omega)⟩⟩⟩
  have HX0 : Aside0 (∀ k, (fun k => ex k ∨ k = b0) k → k < w0.heap.size) := ⟨fun k hk => hk.elim (fun e => Nat.lt_of_lt_of_le (HX.out k e) HB0.out.size) (fun e => by rw [e]; exact (Array.getElem?_eq_some_iff.1 HH0.out).1)⟩
  have HWR : Aside0 (∀ W, Below w.heap.size w W → Calls Try.prog 36 #[.agg #[.int .i64 r.1, .slice A n c]] W (RetWW W (writeR r))) := ⟨fun W hW => by rw [HN.out]; exact wwrite_calls W r A c (Kd.C_below HR.out hW) HB.out⟩
  have HEND : Aside0 (∀ W t' ls' , LgAt base W q p t' ls' (fun k => ex k ∨ k = b0) → LgAt base W q p t' ls' ex) := ⟨fun W t' ls' ⟨F, G, h1, h2, h3, h4, h5⟩ => ⟨F, G, h1, h2, h3, fun k hk => ⟨(h4 k hk).1, (h4 k hk).2.1, fun e => (h4 k hk).2.2 (.inl e)⟩, fun k hk => ⟨(h5 k hk).1, (h5 k hk).2.1, fun e => (h5 k hk).2.2 (.inl e)⟩⟩⟩
  have HKE : Aside0 (∀ W, KX base w0 (fun k => ex k ∨ k = b0) W → KX base w ex W) := ⟨fun W hk => ⟨(HB0.out.mono HBS.out).trans hk.below, fun k he hl => (hk.block k (.inl he) (Nat.lt_of_lt_of_le hl HB0.out.size)).trans (HB0.out.block k hl)⟩⟩
  have HBS0 : Aside0 (base ≤ w0.heap.size) := ⟨Nat.le_trans hbs HB0.out.size⟩
  have HLM : Aside0 (∀ W, Below w0.heap.size w0 W → Calls Try.prog 35 #[.pointer (some ⟨q, 0, none⟩)] W fun e w' => e = .returned (.bool true) ∧ w' = W) := ⟨fun W hW => by
    obtain ⟨F, G, _, h2, _⟩ := HT0.out.below hW
    exact lmade_calls W q p ls G h2⟩
  have HQ0 : Aside0 (∀ W, Below w0.heap.size w0 W → W.cell? ⟨q, 0, none⟩ = some (.pointer (some ⟨p, 0, none⟩))) := ⟨fun W hW => by
    obtain ⟨F, G, _, ⟨v, hh, _⟩, _⟩ := HT0.out.below hW
    exact (two_cells' hh).1⟩
  rw [← hn]
  clear h hr hb hx hbs hw0 hb0 hn hll hcap
  by_cases hg : r.good
  · have HWV := writeR_good hg
    have HAB := Aside0.mk (Rc.all_bytes hg HB.out)
    rw [HWV] at HWR
    have HG := Aside0.mk hg
    obtain ⟨ys, hys⟩ : ∃ ys, ys = r.all := ⟨_, rfl⟩
    have HYS := Aside0.mk hys
    rw [← hys] at HAB HWR
    clear HWV hys hg
    go_enter Try.func11, Try.ntmps11
    go_wp2_with fail
    rw [← HW0.out]
    refine (HLM.out _ (Below.refl _ _)).mono ?_
    rintro e w1 ⟨rfl, hw1⟩
    have hw1 := hw1.symm
    subst hw1
    rw [← HBB.out]
    obtain ⟨t0, t1, _, _⟩ := two_cells' HH0.out
    go_wp2_with fail
    refine (HWR.out _ HB0.out).mono ?_
    rintro e w1 ⟨v1, rfl, hq1, hb1⟩
    dsimp only at hq1 ⊢
    obtain ⟨A1, c1, rfl, _⟩ := hq1.form
    have HQ1 := Aside0.mk hq1
    have HT1 := Aside0.mk (HT0.out.below hb1)
    have HH1 := Aside0.mk (blk_keep HH0.out hb1)
    have HK1 := Aside0.mk (below_kx (ex := fun k => ex k ∨ k = b0) hb1 HBS0.out)
    have x0 := HQ0.out _ hb1
    have HX1 : Aside0 (∀ k, (fun k => ex k ∨ k = b0) k → k < w1.heap.size) := ⟨fun k hk => Nat.lt_of_lt_of_le (HX0.out k hk) hb1.size⟩
    have HTA := Aside0.mk (HT1.out.tape HX1.out (Nat.le_trans HBS0.out hb1.size) (fun F hF => append_calls w1 p t F A1 c1 ys hF HQ1.out.C HAB.out))
    clear hq1 hb1 t0 t1
    go_wp2_with fail
    refine HTA.out.mono ?_
    rintro e w2 ⟨rfl, ht2, hk2⟩
    have HT2 := Aside0.mk ht2
    have HK2 := Aside0.mk (HK1.out.trans hk2)
    have HH2 := Aside0.mk ((hk2.block b0 (.inr rfl) (HX1.out b0 (.inr rfl))).trans HH1.out)
    clear ht2 hk2 x0 HTA
    by_cases hroom : t.room - t.bs.length < ys.length
    · have HAP : Aside0 (t.append ys = (t, 5)) := ⟨by unfold TS.append; rw [if_pos hroom]⟩
      have HV : Aside0 (addP t ls r f = (t, ls, 5)) := ⟨by unfold addP; rw [if_pos HG.out, ← HYS.out, if_pos hroom]⟩
      rw [HAP.out] at HT2 ⊢
      clear hroom
      go_wp2_with fail
      go_ret
      rw [HV.out]
      exact ⟨rfl, HEND.out _ _ _ HT2.out, HKE.out _ HK2.out⟩
    · have HAP : Aside0 (t.append ys = ({ t with bs := t.bs ++ ys }, 0)) := ⟨by unfold TS.append; rw [if_neg hroom]⟩
      have HV : Aside0 (addP t ls r f = ((if f then (TS.mk t.room (t.bs ++ ys) t.forced).force else TS.mk t.room (t.bs ++ ys) t.forced), ls ++ [r], 0)) := ⟨by unfold addP; rw [if_pos HG.out, ← HYS.out, if_neg hroom]⟩
      rw [HAP.out] at HT2 ⊢
      dsimp only at HT2 ⊢
      obtain ⟨F, G, g1, ⟨v, hh, hlr, hgq⟩, g3, g4, g5⟩ := HT2.out
      obtain ⟨Av, cv, rfl, _⟩ := hlr.form
      obtain ⟨m, hm⟩ : ∃ m, m = ls.length := ⟨_, rfl⟩
      rw [← hm] at hh hlr
      have HLR := Aside0.mk hlr
      have HGS := Aside0.mk (And.intro g1 (And.intro hh (And.intro hgq (And.intro g3 (And.intro g4 g5)))))
      have HBS2 : Aside0 (base ≤ w2.heap.size) := ⟨Nat.le_trans HBS0.out HK2.out.below.size⟩
      have HX2 : Aside0 (∀ k, (fun k => ex k ∨ k = b0) k → k < w2.heap.size) := ⟨fun k hk => Nat.lt_of_lt_of_le (HX0.out k hk) HK2.out.below.size⟩
      have HS : Aside0 (∀ W, Below w2.heap.size w2 W → W.cell? ⟨q, 1, none⟩ = some (.slice Av m cv) ∧ W.cell? ⟨b0, 0, none⟩ = some (.int .i64 r.1) ∧ W.cell? ⟨b0, 1, none⟩ = some (.slice A n c)) := ⟨fun W hW => by
        obtain ⟨_, y1, _, _⟩ := two_cells' (blk_keep hh hW)
        obtain ⟨z0, z1, _, _⟩ := two_cells' (blk_keep HH2.out hW)
        exact ⟨y1, z0, z1⟩⟩
      have HRL := Aside0.mk HG.out.2.2
      have HCP : Aside0 (∀ W g, Below w2.heap.size w2 W → W.heap[g]? = some (.cells #[.int .i64 r.1, .slice A n c] 50 (0, 0)) → Calls Try.prog 24 #[.slice (some ⟨g, 0, none⟩) 1 1] W (fun e W' => ∃ A2 c2, e = .returned (.slice A2 1 c2) ∧ RW W' w2.heap.size (.slice A2 1 c2) [r] ∧ Below w2.heap.size w2 W')) := ⟨fun W g hW hhg => by
        have hC : recK.C W (some ⟨g, 0, none⟩) 1 [r] := by
          refine ⟨rfl, by decide, fun _ => ⟨_, rfl, fun j p hj => ?_⟩⟩
          have hj0 : j = 0 := by have := (List.getElem?_eq_some_iff.1 hj).1; simpa using this
          subst hj0
          obtain rfl : p = r := by simpa using hj.symm
          obtain ⟨z0, z1, _, _⟩ := two_cells' hhg
          refine ⟨[.int .i64 p.1, .slice A n c], rfl, ⟨[.int .i64 p.1], [.slice A n c], rfl, rfl, A, c, by rw [HN.out], HCAP.out, Kd.C_below (HRK.out _ (HKE.out _ HK2.out)) hW⟩, fun i v hv => ?_⟩
          match i, hv with
          | 0, hv => simp at hv; subst hv; simpa [Addr.add] using z0
          | 1, hv => simp at hv; subst hv; simpa [Addr.add] using z1
        refine (copies_calls W [r] (some ⟨g, 0, none⟩) 1 hC (fun x hx => by obtain rfl := List.mem_singleton.1 hx; have := HRL.out; omega) (by simp)).mono ?_
        rintro e W' ⟨v', rfl, hr', hb'⟩
        obtain ⟨A2, c2, rfl⟩ := hr'.form
        exact ⟨A2, c2, rfl, hr'.lower hW.size, hW.trans (hb'.mono hW.size)⟩⟩
      have HBD : Aside0 (Below w2.heap.size w2 w2.drew) := ⟨below_drew (Below.refl _ _)⟩
      have HLE : Aside0 (ls.length ≤ 1000000000) := ⟨by have := HLL.out; omega⟩
      have HCL : Aside0 (∀ Wm w4 v4, Below w2.heap.size w2 Wm → LR w4 (fun k => G k ∨ w2.heap.size ≤ k) v4 (ls ++ [r]) → Wm.grownBy w4 (Value.slice Av m cv).ownBlock → LgAt base (w4.setCell ⟨q, 1, none⟩ v4) q p (TS.mk t.room (t.bs ++ ys) t.forced) (ls ++ [r]) (fun k => ex k ∨ k = b0) ∧ KX base w2 (fun k => ex k ∨ k = b0) (w4.setCell ⟨q, 1, none⟩ v4)) := ⟨fun Wm w4 v4 hm' hl4 hg4 => add_close g1 hh hlr hgq g3 g4 g5 HX2.out HBS2.out rfl hm' hl4 hg4⟩
      have HQC : Aside0 (∀ Wm w4, Below w2.heap.size w2 Wm → Wm.grownBy w4 (Value.slice Av m cv).ownBlock → (w4.cell? ⟨q, 1, none⟩ = some (.slice Av m cv) ∧ w4.cell? ⟨b0, 0, none⟩ = some (.int .i64 r.1) ∧ w4.cell? ⟨b0, 1, none⟩ = some (.slice A n c)) ∧ w4.frozen? ⟨q, 1, none⟩ = false) := ⟨fun Wm w4 hm' hg4 => by
        have hql := (Array.getElem?_eq_some_iff.1 hh).1
        have hbl := (Array.getElem?_eq_some_iff.1 HH2.out).1
        have hvG : ∀ k, (Value.slice Av m cv).ownBlock = some k → G k := by obtain ⟨_, _, h, _⟩ := hlr; exact h
        have hqv : some q ≠ (Value.slice Av m cv).ownBlock := fun e => by
          obtain ⟨vs, ho, _⟩ := hlr
          obtain ⟨cur, hc⟩ := own_at_type ho e.symm
          rw [hh] at hc
          injection hc with hc
          injection hc with _ hc
          exact absurd hc (by decide)
        have hbv : some b0 ≠ (Value.slice Av m cv).ownBlock := fun e => (g5 b0 (hvG b0 e.symm)).2.2 (.inr rfl)
        obtain ⟨_, y1, _, y3⟩ := two_cells' ((hg4.block q (Nat.lt_of_lt_of_le hql hm'.size) hqv).trans (blk_keep hh hm'))
        obtain ⟨z0, z1, _, _⟩ := two_cells' ((hg4.block b0 (Nat.lt_of_lt_of_le hbl hm'.size) hbv).trans (blk_keep HH2.out hm'))
        exact ⟨⟨y1, z0, z1⟩, y3⟩⟩
      obtain ⟨ls', hls'⟩ : ∃ ls', ls' = ls ++ [r] := ⟨_, rfl⟩
      have HLS := Aside0.mk hls'
      rw [← hls'] at HCL HV
      obtain ⟨x00, x01, x02⟩ := HS.out _ (Below.refl _ _)
      obtain ⟨x10, x11, x12⟩ := HS.out _ (below_alloc (Below.refl w2.heap.size w2) (.cells #[.int .i64 r.1, .slice A n c] 50))
      clear g1 hh hgq g3 g4 g5 hlr hm hls' hroom
      go_wp2_with fail
      go_region_law
        (first
         | (refine step_call (by rfl) 24 #[.tmp 36] #[28] (by rfl) #[.slice (some ⟨w2.heap.size, 0, none⟩) 1 1] (by rfl) Try.f24 Try.func24 (by kernel_rfl) (by kernel_rfl) ?_; refine (HCP.out _ w2.heap.size (by first | exact below_alloc (Below.refl _ _) _ | exact below_drew (below_alloc (Below.refl _ _) _) | exact below_alloc (below_drew (Below.refl _ _)) _) (by first | exact heap_alloc_new w2 _ | exact heap_alloc_new w2.drew _)).mono ?_; rintro e w3 ⟨A2, c2, rfl, hr3, hb3⟩; obtain ⟨x20, x21, x22⟩ := HS.out _ hb3; have HR3 := Aside0.mk hr3; have HB3 := Aside0.mk hb3; clear hr3 hb3; refine ⟨_, rfl, ?_⟩)
         | (refine step_logrec w2.heap.size G rfl (.tmp 34) (.tmp 37) rfl (.slice Av m cv) ls r A2 c2 rfl rfl (HLR.out.step (fun k _ hk => HB3.out.block k hk)) HR3.out HB3.out.size HLE.out ?_; intro v4 w4 hl4 hg4 _; rw [← HLS.out] at hl4; obtain ⟨A4, c4, rfl, _⟩ := hl4.form; obtain ⟨⟨e0, _, _⟩, g0⟩ := HQC.out _ _ HB3.out hg4; have HE4 := Aside0.mk (HCL.out _ _ _ HB3.out hl4 hg4); clear hl4 hg4))
      all_goals
        cases f with
        | false =>
          go_wp2_with fail
          go_ret
          rw [HV.out]
          exact ⟨rfl, HEND.out _ _ _ HE4.out.1, HKE.out _ (HK2.out.trans HE4.out.2)⟩
        | true =>
          obtain ⟨F', G', _, ⟨v', hh', _⟩, _⟩ := HE4.out.1
          have y0 := (two_cells' hh').1
          have HX4 : Aside0 (∀ k, (fun k => ex k ∨ k = b0) k → k < (w4.setCell ⟨q, 1, none⟩ (.slice A4 ls'.length c4)).heap.size) := ⟨fun k hk => Nat.lt_of_lt_of_le (HX2.out k hk) HE4.out.2.below.size⟩
          have HFC := Aside0.mk (HE4.out.1.tape HX4.out (Nat.le_trans HBS2.out HE4.out.2.below.size) (fun F hF => force_calls _ p _ F hF))
          clear hh'
          go_wp2_with fail
          refine HFC.out.mono ?_
          rintro e w5 ⟨rfl, ht5, hk5⟩
          have HT5 := Aside0.mk ht5
          have HK5 := Aside0.mk (HK2.out.trans (HE4.out.2.trans hk5))
          clear ht5 hk5
          go_wp2_with fail
          go_ret
          rw [HV.out]
          exact ⟨rfl, HEND.out _ _ _ HT5.out, HKE.out _ HK5.out⟩
  · have HNW := writeR_not hg
    have HV : Aside0 (addP t ls r f = (t, ls, (writeR r).2)) := ⟨by unfold addP; rw [if_neg hg]⟩
    obtain ⟨er, her⟩ : ∃ er, er = (writeR r).2 := ⟨_, rfl⟩
    have hne : (er != 0) = true := by simpa [her] using HNW.2
    have HER := Aside0.mk her
    have HNV := Aside0.mk HNW.1
    clear hg her HNW
    go_enter Try.func11, Try.ntmps11
    go_wp2_with fail
    rw [← HW0.out]
    refine (HLM.out _ (Below.refl _ _)).mono ?_
    rintro e w1 ⟨rfl, hw1⟩
    have hw1 := hw1.symm
    subst hw1
    rw [← HBB.out]
    obtain ⟨t0, t1, _, _⟩ := two_cells' HH0.out
    go_wp2_with fail
    refine (HWR.out _ HB0.out).mono ?_
    rintro e w1 ⟨v1, rfl, hq1, hb1⟩
    rw [← HER.out]
    rw [HNV.out] at hq1
    obtain ⟨A1, c1, rfl, _⟩ := hq1.form
    have HT1 := Aside0.mk (HT0.out.below hb1)
    have HK1 := Aside0.mk (below_kx (ex := fun k => ex k ∨ k = b0) hb1 HBS0.out)
    clear hq1 hb1 t0 t1
    go_wp2_with fail
    go_ret
    rw [HV.out, ← HER.out]
    exact ⟨rfl, HEND.out _ _ _ HT1.out, HKE.out _ HK1.out⟩
end Go.Proofs.Ytobljkhidgbeoaa.Oct
/- WalFound. -/
namespace Go.Proofs.Ytobljkhidgbeoaa.Oct
open Go.RowKit Go.Proofs.YtobljkhidgbeoaaW.PrintWords Go.Proofs.Ytobljkhidgbeoaa.M
set_option linter.unusedVariables false
set_option linter.unusedSimpArgs false
theorem take_back (l : List Rc) : ∀ n, n ≤ (allB l).length → ∃ k, k ≤ l.length ∧ (allB (l.take k)).length ≤ n ∧ (k < l.length → n < (allB (l.take (k + 1))).length) := by
  induction l with
  | nil => intro n _; exact ⟨0, Nat.le_refl _, by simp [allB], fun h => by simp at h⟩
  | cons r l ih =>
    intro n hn
    rw [allB_cons, List.length_append] at hn
    by_cases h : n < r.all.length
    · exact ⟨0, Nat.zero_le _, by simp [allB], fun _ => by rw [List.take_succ_cons, allB_cons, List.length_append]; omega⟩
    · obtain ⟨k, h1, h2, h3⟩ := ih (n - r.all.length) (by omega)
      refine ⟨k + 1, by simp; omega, by rw [List.take_succ_cons, allB_cons, List.length_append]; omega, fun hk => ?_⟩
      have := h3 (by simp at hk; omega)
      rw [List.take_succ_cons, allB_cons, List.length_append]
      omega
/-- what is found behind a crash is a front of what was there, no shorter than what was forced -/
theorem found_front {l s : List Rc} (hg : ∀ r ∈ l, r.good) (hs : s <+: l) {n : Nat} (h1 : (allB s).length ≤ n) (h2 : n ≤ (allB l).length) : ∃ k, k ≤ l.length ∧ s.length ≤ k ∧ recsOf ((allB l).take n) = l.take k := by
  obtain ⟨k, k1, k2, k3⟩ := take_back l n h2
  refine ⟨k, k1, ?_, ?_⟩
  · rcases Nat.lt_or_ge k s.length with h | h
    · exfalso
      obtain ⟨u, rfl⟩ := hs
      have h5 := k3 (by rw [List.length_append]; omega)
      rw [List.take_append_of_le_length (by omega)] at h5
      have h6 : s = s.take (k + 1) ++ s.drop (k + 1) := (List.take_append_drop _ _).symm
      have h7 : (allB s).length = (allB (s.take (k + 1))).length + (allB (s.drop (k + 1))).length := by
        conv => lhs; rw [h6, allB_app, List.length_append]
      omega
    · exact h
  · unfold recsOf
    rw [readL_cut hg k1 k2 k3 h2, endsR_map]
def Sound (t : TS) (ls : List Rc) : Prop := t.bs = allB ls ∧ ∀ r ∈ ls, r.good ∧ Bytes r.2
theorem addP_sound {t : TS} {ls : List Rc} (h : Sound t ls) {r : Rc} (hb : Bytes r.2) (f : Bool) : Sound (addP t ls r f).1 (addP t ls r f).2.1 ∧ ls <+: (addP t ls r f).2.1 ∧ (addP t ls r f).2.1.length ≤ ls.length + 1 ∧ (addP t ls r false).1.forced = t.forced ∧ (t.forced = t.bs.length → (addP t ls r true).1.forced = (addP t ls r true).1.bs.length) ∧ (addP t ls r f).1.room = t.room := by
  unfold addP
  by_cases hg : r.good
  · rw [if_pos hg, if_pos hg, if_pos hg]
    by_cases hl : t.room - t.bs.length < r.all.length
    · rw [if_pos hl, if_pos hl, if_pos hl]
      exact ⟨h, List.prefix_refl _, Nat.le_succ _, rfl, id, rfl⟩
    · rw [if_neg hl, if_neg hl, if_neg hl]
      have hs : (t.bs ++ r.all) = allB (ls ++ [r]) ∧ ∀ q ∈ ls ++ [r], q.good ∧ Bytes q.2 := ⟨by rw [allB_snoc, h.1], fun q hq => by
        rcases List.mem_append.1 hq with hq | hq
        · exact h.2 q hq
        · obtain rfl := List.mem_singleton.1 hq
          exact ⟨hg, hb⟩⟩
      cases f
      · exact ⟨hs, List.prefix_append _ _, by simp, rfl, fun _ => rfl, rfl⟩
      · exact ⟨hs, List.prefix_append _ _, by simp, rfl, fun _ => rfl, rfl⟩
  · rw [if_neg hg, if_neg hg, if_neg hg]
    exact ⟨h, List.prefix_refl _, Nat.le_succ _, rfl, id, rfl⟩
/-- a log that was just opened -/
theorem LgAt.opened {base : Nat} {W W' : World} {q p : Nat} {t : TS} {F : Nat → Prop} {v : Value} (hF : ∀ k, F k → base ≤ k ∧ k < W.heap.size) (hbs : base ≤ W.heap.size) (hp : F p) (h1 : W.heap.size ≤ q) (h2 : W'.heap[q]? = some (.cells #[.pointer (some ⟨p, 0, none⟩), v] 70 (0, 0))) (h3 : RW W' W.heap.size v (recsOf t.bs)) (h4 : TapeAt W' p t.opened F) (hg : W.grownBy W' (some p)) : LgAt base W' q p t.opened (recsOf t.bs) (fun _ => False) :=
  ⟨F, fun k => W.heap.size ≤ k ∧ k < W'.heap.size, h4, ⟨v, h2, LR.of_RW h3, h1, (Array.getElem?_eq_some_iff.1 h2).1⟩, fun k hf hg => by have := (hF k hf).2; omega, fun k hf => ⟨(hF k hf).1, Nat.lt_of_lt_of_le (hF k hf).2 hg.size, id⟩, fun k hg => ⟨by omega, hg.2, id⟩⟩
end Go.Proofs.Ytobljkhidgbeoaa.Oct
