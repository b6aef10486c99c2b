import Derived.Test.YtcpkfkcemaihfaaSessS
import Derived.Test.YtcpkfkcemaihfaaSessJ
/- SessLives: its walk. -/
namespace Go.Proofs.Ytcpkfkcemaihfaa.Oct
open Go.RowKit Go.Proofs.YtcpkfkcemaihfaaW.PrintWords Go.Proofs.Ytcpkfkcemaihfaa.M
set_option linter.unusedVariables false
set_option linter.unusedSimpArgs false
def EOpOk (o : OpE) : Prop := Bytes o.2.1 ∧ (frOf o.2.2).ok
set_option maxRecDepth 200000 in
set_option maxHeartbeats 16000000 in
theorem slives_calls (w : World) (se wi : Int) (l : List OpE) (A : Option Addr) (c : Nat) (hs : 0 ≤ se ∧ se < 4294967296) (hw : -9223372036854775808 ≤ wi ∧ wi ≤ 9223372036854775807) (h : eopK.C w A l.length l) (ho : ∀ o ∈ l, EOpOk o) :
    Calls Try.prog 4 #[.int .u32 se, .int .i64 wi, .slice A l.length c] w (Yes w) := by
  have HL := Aside0.mk h
  have HOK := Aside0.mk ho
  have hll : l.length ≤ 9223372036854775807 := h.2.1
  clear h ho
  by_cases hbad : se = 0 ∨ wi < 1 ∨ 16 < wi
  · have HBAD := Aside0.mk hbad
    clear hbad
    go_enter Try.func4, Try.ntmps4
    go_wp2_with fail
    refine (enew_bad _ se wi HBAD.out).mono ?_
    rintro e w1 ⟨rfl, hw1⟩
    have hw1 := hw1.symm
    subst hw1
    go_wp2_with fail
    refine (dnew_bad _ se wi HBAD.out).mono ?_
    rintro e w2 ⟨rfl, hw2⟩
    have hw2 := hw2.symm
    subst hw2
    go_wp2_with fail
    have HW0 : Aside0 (Below w.heap.size w w) := ⟨Below.refl _ _⟩
    go_loopw [11] (fun v11 wr => v11 = .int .i64 0 ∧ Aside0 (Below w.heap.size w wr)) (fun v _ => 0)
    case atStart => exact ⟨rfl, HW0⟩
    case round =>
      obtain ⟨rfl, HB⟩ := hrel
      by_cases hl0 : (0 : Int) < (l.length : Int)
      all_goals
        go_wp2_with fail
        have HBA := HB.out
        refine (ealive_calls _).mono ?_
        rintro e w9 ⟨rfl, hb9⟩
        have HB9 := Aside0.mk (HBA.trans (hb9.mono HBA.size))
        clear hb9 HBA
        go_wp2_with fail
        go_ret
        exact ⟨rfl, HB9.out⟩
  · obtain ⟨N, rfl⟩ := Int.eq_ofNat_of_zero_le (show 0 ≤ wi by omega)
    have HSN : Aside0 ((1 ≤ se ∧ se < 4294967296) ∧ (1 ≤ N ∧ N ≤ 16)) := ⟨by omega⟩
    clear hbad hs hw
    go_enter Try.func4, Try.ntmps4
    go_wp2_with fail
    refine (enew_good _ se N HSN.out.1 HSN.out.2).mono ?_
    rintro e w1 ⟨rfl, ht, hb⟩
    have HT1 := Aside0.mk ht
    have HB1 := Aside0.mk hb
    clear ht hb
    go_wp2_with fail
    refine (dnew_good _ se N HSN.out.1 HSN.out.2).mono ?_
    rintro e w2 ⟨rfl, ht2, hb2⟩
    have HB2 := Aside0.mk (HB1.out.trans (hb2.mono HB1.out.size))
    have HT2 : Aside0 (TwoE w.heap.size w2 w.heap.size (newE se N) w1.heap.size (newE se N) (fun _ => False)) := ⟨fun k => w1.heap.size ≤ k ∧ k < w2.heap.size, ⟨_, HT1.out.below hb2, fun k e => by
      have h1 := HT1.out.is.1
      have h2 := hb2.size
      refine ⟨by omega, by omega, ?_⟩
      rintro (h | h)
      · omega
      · exact h⟩, ht2.mono (fun k a b => ⟨a, b⟩), fun k a => ⟨Nat.le_trans HB1.out.size a.1, a.2, id⟩, fun _ h => h.elim, HB2.out.size⟩
    obtain ⟨p, hp⟩ : ∃ p, p = w.heap.size := ⟨_, rfl⟩
    obtain ⟨x, hx⟩ : ∃ x, x = w1.heap.size := ⟨_, rfl⟩
    have HP2 : Aside0 (TwoE w.heap.size w2 p (newE se N) x (newE se N) (fun _ => False)) := ⟨by rw [hp, hx]; exact HT2.out⟩
    rw [← hp, ← hx]
    clear ht2 hb2 HT2 HT1 HB1 hp hx
    go_wp2_with fail
    go_loopw [11] (fun v11 wr => ∃ (i : Nat) (s : Es), i ≤ l.length ∧ i ≤ 100 ∧ v11 = .int .i64 i ∧ Aside0 (Below w.heap.size w wr) ∧ Aside0 (TwoE w.heap.size wr p s x s (fun _ => False))) (fun v _ => l.length - (intOf v).toNat)
    case atStart => exact ⟨0, _, by omega, by omega, rfl, HB2, HP2⟩
    case round =>
      obtain ⟨i, s, hi, hi3, rfl, HB, HT⟩ := hrel
      have hcase : (i < l.length ∧ i < 100) ∨ i = l.length ∨ (i < l.length ∧ i = 100) := by omega
      rcases hcase with ⟨hlt, h3⟩ | hend
      · obtain ⟨ad, B, c1, E, d1, rfl, k0, k1, k2, k3, k4, k5, hrd, hed⟩ := eop_at HL.out hlt (0, [], (0, 0, 0, []))
        have HM : Aside0 (l.getD i (0, [], (0, 0, 0, [])) ∈ l) := ⟨by rw [List.getD_eq_getElem?_getD, List.getElem?_eq_getElem hlt]; exact List.getElem_mem hlt⟩
        have HOI := Aside0.mk (HOK.out _ HM.out)
        obtain ⟨o, ho⟩ : ∃ o, o = l.getD i (0, [], (0, 0, 0, [])) := ⟨_, rfl⟩
        rw [← ho] at k0 k1 k2 k3 k4 k5 hrd hed HOI
        clear ho HM
        obtain ⟨kd, b, ft⟩ := o
        dsimp only at k0 k1 k2 k3 k4 k5 hrd hed
        have HBY : Aside0 (Bytes b) := ⟨HOI.out.1⟩
        have HFO : Aside0 ((frOf ft).ok) := ⟨HOI.out.2⟩
        obtain ⟨f, hf⟩ : ∃ f, f = frOf ft := ⟨_, rfl⟩
        rw [← hf] at k2 k3 k4 k5 hed HFO
        clear HOI hf
        have hbl : b.length ≤ 9223372036854775807 := hrd.2.1
        have hfl : f.d.length ≤ 9223372036854775807 := hed.2.1
        have HRD := Aside0.mk hrd
        have HED := Aside0.mk hed
        have HC : Aside0 (∀ W, Below w.heap.size w W → W.cell? (ad.add (i * 6)) = some (.int .i64 kd) ∧ W.cell? ⟨(ad.add (i * 6)).block, (ad.add (i * 6)).off + 1, none⟩ = some (.slice B b.length c1) ∧ W.cell? ⟨(ad.add (i * 6)).block, (ad.add (i * 6)).off + 2, none⟩ = some (.int .u32 f.s) ∧ W.cell? ⟨(ad.add (i * 6)).block, (ad.add (i * 6)).off + 3, none⟩ = some (.int .i64 f.q) ∧ W.cell? ⟨(ad.add (i * 6)).block, (ad.add (i * 6)).off + 4, none⟩ = some (.int .i64 f.k) ∧ W.cell? ⟨(ad.add (i * 6)).block, (ad.add (i * 6)).off + 5, none⟩ = some (.slice E f.d.length d1)) := ⟨fun W hW =>
          ⟨(hW.cell (World.block_lt_of_cell? _ _ k0)).trans k0, (hW.cell (World.block_lt_of_cell? _ _ k1)).trans k1, (hW.cell (World.block_lt_of_cell? _ _ k2)).trans k2, (hW.cell (World.block_lt_of_cell? _ _ k3)).trans k3, (hW.cell (World.block_lt_of_cell? _ _ k4)).trans k4, (hW.cell (World.block_lt_of_cell? _ _ k5)).trans k5⟩⟩
        clear hrd hed k0 k1 k2 k3 k4 k5
        obtain ⟨k0, k1, k2, k3, k4, k5⟩ := HC.out _ HB.out
        have HS0 : Aside0 (w.heap.size ≤ wr.heap.size) := ⟨HB.out.size⟩
        clear HC
        have hcs : (1000 : Int) < (b.length : Int) ∨ (¬ (1000 : Int) < (b.length : Int) ∧ (1000 : Int) < (f.d.length : Int)) ∨ (¬ (1000 : Int) < (b.length : Int) ∧ ¬ (1000 : Int) < (f.d.length : Int)) := by omega
        rcases hcs with h5 | ⟨h5, h6⟩ | ⟨h5, h6⟩
        · go_wp2_with fail
          have HBA := below_alloc HB.out (.cells #[.int .i64 kd, .slice B b.length c1, .int .u32 f.s, .int .i64 f.q, .int .i64 f.k, .slice E f.d.length d1] 53)
          refine (ealive_calls _).mono ?_
          rintro e w9 ⟨rfl, hb9⟩
          have HB9 := Aside0.mk (HBA.trans (hb9.mono HBA.size))
          clear hb9 HBA
          go_wp2_with fail
          go_ret
          exact ⟨rfl, HB9.out⟩
        · go_wp2_with fail
          have HBA := below_alloc HB.out (.cells #[.int .i64 kd, .slice B b.length c1, .int .u32 f.s, .int .i64 f.q, .int .i64 f.k, .slice E f.d.length d1] 53)
          refine (ealive_calls _).mono ?_
          rintro e w9 ⟨rfl, hb9⟩
          have HB9 := Aside0.mk (HBA.trans (hb9.mono HBA.size))
          clear hb9 HBA
          go_wp2_with fail
          go_ret
          exact ⟨rfl, HB9.out⟩
        · have HLB : Aside0 (b.length ≤ 1000) := ⟨by omega⟩
          have HFL : Aside0 (f.d.length ≤ 1000) := ⟨by omega⟩
          go_wp2_with fail
          obtain ⟨q, hq⟩ : ∃ q, q = wr.heap.size := ⟨_, rfl⟩
          obtain ⟨w0, hw0⟩ : ∃ w0, w0 = wr.alloc (.cells #[.int .i64 kd, .slice B b.length c1, .int .u32 f.s, .int .i64 f.q, .int .i64 f.k, .slice E f.d.length d1] 53) := ⟨_, rfl⟩
          have hb0 : Below wr.heap.size wr w0 := by rw [hw0]; exact below_alloc (Below.refl _ _) _
          have hh0 : w0.heap[q]? = some (.cells #[.int .i64 kd, .slice B b.length c1, .int .u32 f.s, .int .i64 f.q, .int .i64 f.k, .slice E f.d.length d1] 53 (0, 0)) := by rw [hw0, hq]; exact heap_alloc_new wr _
          rw [← hw0, ← hq]
          have HQ := Aside0.mk hq
          have HB0 := Aside0.mk hb0
          have HH0 := Aside0.mk hh0
          have HBW := Aside0.mk (HB.out.trans (hb0.mono HS0.out))
          have HQL : Aside0 (q < w0.heap.size) := ⟨(Array.getElem?_eq_some_iff.1 hh0).1⟩
          clear hw0 hb0 hh0 hq k0 k1 k2 k3 k4 k5
          refine (copy_calls _ B c1 b (Kd.C_below HRD.out HBW.out) (by have := HLB.out; omega)).mono ?_
          rintro e w3 ⟨v7, rfl, ho7, hb7⟩
          obtain ⟨A7, c7, rfl, hr7⟩ := ho7.reads
          have hb3 := HB0.out.trans (hb7.mono HB0.out.size)
          obtain ⟨top, htop⟩ : ∃ top, top = w0.heap.size := ⟨_, rfl⟩
          have HTOP : Aside0 (w.heap.size ≤ top) := ⟨by rw [htop]; exact HBW.out.size⟩
          have HQT : Aside0 (q < top) := ⟨by rw [htop]; exact HQL.out⟩
          obtain ⟨X, hex⟩ : ∃ X : Nat → Prop, X = fun k => k = q ∨ (Value.slice A7 b.length c7).ownBlock = some k := ⟨_, rfl⟩
          have HEQ : Aside0 (X q) := ⟨by rw [hex]; exact .inl rfl⟩
          have HEA : Aside0 (∀ k, (Value.slice A7 b.length c7).ownBlock = some k → X k) := ⟨fun k h => by rw [hex]; exact .inr h⟩
          have HT3 : Aside0 (TwoE w.heap.size w3 p s x s X) := ⟨HT.out.below hb3 (fun k h => by
            rw [hex] at h
            have hq := HQ.out
            rcases h with h | h
            · rw [h, hq]; exact .inl (Nat.le_refl _)
            · exact .inl (Nat.le_trans HB0.out.size (own_base ho7 k h))) (fun k h => by
            rw [hex] at h
            rcases h with h | h
            · rw [h]; exact Nat.lt_of_lt_of_le HQL.out hb7.size
            · exact own_lt ho7 k h)⟩
          rw [← htop] at ho7
          have HO3 := Aside0.mk ho7
          have HH3 := Aside0.mk (blk_keep HH0.out hb7)
          have HB3 := Aside0.mk (HBW.out.trans (hb7.mono HBW.out.size))
          have hbd3 : Below w3.heap.size w3 w3.drew := below_drew (Below.refl _ _)
          have HTD : Aside0 (TwoE w.heap.size w3.drew p s x s X) := ⟨HT3.out.below hbd3 (fun k h => .inr h) (fun k h => by obtain ⟨_, _, _, _, h4, _⟩ := HT3.out; exact h4 k h)⟩
          have HOD : Aside0 (OB w3.drew top (.slice A7 b.length c7) b) := ⟨HO3.out.below hbd3⟩
          have HHD : Aside0 (w3.drew.heap[q]? = some (.cells #[.int .i64 kd, .slice B b.length c1, .int .u32 f.s, .int .i64 f.q, .int .i64 f.k, .slice E f.d.length d1] 53 (0, 0))) := ⟨HH3.out⟩
          have HBDD : Aside0 (Below w.heap.size w w3.drew) := ⟨below_drew HB3.out⟩
          have HCQ : Aside0 (∀ W : World, W.heap[q]? = some (.cells #[.int .i64 kd, .slice B b.length c1, .int .u32 f.s, .int .i64 f.q, .int .i64 f.k, .slice E f.d.length d1] 53 (0, 0)) → W.cell? ⟨q, 0, none⟩ = some (.int .i64 kd) ∧ W.cell? ⟨q, 1, none⟩ = some (.slice B b.length c1)) := ⟨fun W h => ⟨(six_cells h).1, (six_cells h).2.1⟩⟩
          have hx3 := HCQ.out _ HH3.out
          clear hb7 hr7 hb3 ho7 htop hex hbd3
          have hk : kd = 0 ∨ kd = 1 ∨ (kd ≠ 0 ∧ kd ≠ 1) := by omega
          rcases hk with hk | hk | ⟨e0, e1⟩
          · have b0 : (kd == 0) = true := beq_iff_eq.2 hk
            have b1 : (kd == 1) = false := beq_eq_false_iff_ne.2 (by omega)
            clear hk
            obtain ⟨s2, hs2⟩ : ∃ s2, s2 = (s.put b).1 := ⟨_, rfl⟩
            obtain ⟨er, her⟩ : ∃ er, er = (s.put b).2 := ⟨_, rfl⟩
            have HC1 : Aside0 (∀ W, Below w.heap.size w W → TwoE w.heap.size W p s x s X → OB W top (.slice A7 b.length c7) b → W.heap[q]? = some (.cells #[.int .i64 kd, .slice B b.length c1, .int .u32 f.s, .int .i64 f.q, .int .i64 f.k, .slice E f.d.length d1] 53 (0, 0)) → Calls Try.prog 12 #[.pointer (some ⟨p, 0, none⟩), .slice A7 b.length c7] W (fun e W' => e = .returned (.int .i64 er) ∧ TwoE w.heap.size W' p s2 x s X ∧ OB W' top (.slice A7 b.length c7) b ∧ W'.heap[q]? = some (.cells #[.int .i64 kd, .slice B b.length c1, .int .u32 f.s, .int .i64 f.q, .int .i64 f.k, .slice E f.d.length d1] 53 (0, 0)) ∧ Below w.heap.size w W')) := ⟨fun W hW hp ho hh => by
              have hC : Kd.C (Kd.int .u8) W A7 b.length b := by
                obtain ⟨A', c', e, hr⟩ := ho.reads
                injection e with e1 e2 e3
                rw [e1]; exact hr
              refine (hp.put (fun F hF => eput_calls W p s F A7 c7 b hF hC HBY.out)).mono ?_
              rintro e W' ⟨rfl, hp', hk'⟩
              rw [← hs2] at hp'
              exact ⟨by rw [her], hp', own_move ho (fun k e => hk'.block k (HEA.out k e) (own_lt ho k e)), (hk'.block q HEQ.out (Array.getElem?_eq_some_iff.1 hh).1).trans hh, hW.trans hk'.below⟩⟩
            have HC2 : Aside0 (∀ W, Below w.heap.size w W → TwoE w.heap.size W p s2 x s X → OB W top (.slice A7 b.length c7) b → W.heap[q]? = some (.cells #[.int .i64 kd, .slice B b.length c1, .int .u32 f.s, .int .i64 f.q, .int .i64 f.k, .slice E f.d.length d1] 53 (0, 0)) → Calls Try.prog 19 #[.pointer (some ⟨x, 0, none⟩), .slice B b.length c1] W (fun e W' => e = .returned (.int .i64 er) ∧ TwoE w.heap.size W' p s2 x s2 X ∧ OB W' top (.slice A7 b.length c7) b ∧ W'.heap[q]? = some (.cells #[.int .i64 kd, .slice B b.length c1, .int .u32 f.s, .int .i64 f.q, .int .i64 f.k, .slice E f.d.length d1] 53 (0, 0)) ∧ Below w.heap.size w W')) := ⟨fun W hW hp ho hh => by
              refine (hp.rput (fun F hF => dput_calls W x s F B c1 b hF (Kd.C_below HRD.out hW) HBY.out)).mono ?_
              rintro e W' ⟨rfl, hp', hk'⟩
              rw [← hs2] at hp'
              exact ⟨by rw [her], hp', own_move ho (fun k e => hk'.block k (HEA.out k e) (own_lt ho k e)), (hk'.block q HEQ.out (Array.getElem?_eq_some_iff.1 hh).1).trans hh, hW.trans hk'.below⟩⟩
            have hee : (er != er) = false := bne_self_eq_false _
            clear hs2 her
            go_wp2_with fail
            go_region_held_law (fun W => W.cell? ⟨q, 0, none⟩ = some (.int .i64 kd) ∧ W.cell? ⟨q, 1, none⟩ = some (.slice B b.length c1)) (exact HCQ.out _ (Aside0.out (by assumption)))
              (first
               | (go_at_call 12; refine (HC1.out _ (Aside0.out (by assumption)) (Aside0.out (by assumption)) (Aside0.out (by assumption)) (Aside0.out (by assumption))).mono ?_; rintro e wa ⟨rfl, hpa, hoa, hha, hba⟩; have HPa := Aside0.mk hpa; have HOa := Aside0.mk hoa; have HHa := Aside0.mk hha; have HBa := Aside0.mk hba; clear hpa hoa hha hba)
               | (go_at_call 19; refine (HC2.out _ (Aside0.out (by assumption)) (Aside0.out (by assumption)) (Aside0.out (by assumption)) (Aside0.out (by assumption))).mono ?_; rintro e wb ⟨rfl, hpb, hob, hhb, hbb⟩; have HHb := Aside0.mk hhb; have HTb := Aside0.mk hpb; have HOz : Aside0 (∃ zs : List Int, zs.length = b.length ∧ Bytes zs ∧ OB wb top (.slice A7 b.length c7) zs) := ⟨_, rfl, HBY.out, hob⟩; have HBb := Aside0.mk hbb; clear hpb hob hhb hbb))
            all_goals
              clear HC1 HC2
              obtain ⟨m, hm⟩ : ∃ m, m = b.length := ⟨_, rfl⟩
              have hbl2 : m ≤ 1000 := by rw [hm]; exact HLB.out
              have HOb : Aside0 (∃ zs : List Int, zs.length = m ∧ Bytes zs ∧ OB wb top (.slice A7 m c7) zs) := ⟨by rw [hm]; exact HOz.out⟩
              have HEA' : Aside0 (∀ k, (Value.slice A7 m c7).ownBlock = some k → X k) := ⟨by rw [hm]; exact HEA.out⟩
              rw [← hm]
              clear HOz HEA hm
              have HEA := HEA'
              go_wp2_with fail
              go_loopw [14] (fun v14 wv => ∃ k : Nat, k ≤ m ∧ v14 = .int .i64 k ∧ Aside0 (Below w.heap.size w wv) ∧ Aside0 (TwoE w.heap.size wv p s2 x s2 X) ∧ Aside0 (∃ zs : List Int, zs.length = m ∧ Bytes zs ∧ OB wv top (.slice A7 m c7) zs) ∧ Aside0 (wv.heap[q]? = some (.cells #[.int .i64 kd, .slice B b.length c1, .int .u32 f.s, .int .i64 f.q, .int .i64 f.k, .slice E f.d.length d1] 53 (0, 0)))) (fun v _ => m - (intOf v).toNat)
              case atStart => exact ⟨0, by omega, rfl, HBb, HTb, HOb, HHb⟩
              case round =>
                obtain ⟨wv, hwv⟩ : ∃ wv, wv = wr := ⟨_, rfl⟩
                subst hwv
                obtain ⟨k, hk, rfl, HBV, HTV, HOV, HHV⟩ := hrel
                by_cases hlt2 : k < m
                · obtain ⟨g, z, rfl, hg, hz0, hz1, hc, hf, hset⟩ := own_put HOV.out hlt2
                  obtain ⟨y, hy, hyb⟩ := xor_ff hz0 hz1
                  have HX := Aside0.mk (hset y hyb)
                  have hgq : q ≠ g := by have := HQT.out; omega
                  have HPX := Aside0.mk (HTV.out.poke (W' := wv.setCell ⟨g, k, none⟩ (.int .u8 y)) (by simp [World.setCell]) (fun k' hn _ => Below.heap_setCell wv ⟨g, k, none⟩ _ k' (fun e => hn (e ▸ HEA.out g rfl))))
                  have HBX := Aside0.mk (HBV.out.setCell (p := ⟨g, k, none⟩) (Nat.le_trans HTOP.out hg) (.int .u8 y))
                  have HHX : Aside0 ((wv.setCell ⟨g, k, none⟩ (.int .u8 y)).heap[q]? = some (.cells #[.int .i64 kd, .slice B b.length c1, .int .u32 f.s, .int .i64 f.q, .int .i64 f.k, .slice E f.d.length d1] 53 (0, 0))) := ⟨(Below.heap_setCell wv ⟨g, k, none⟩ _ q hgq).trans HHV.out⟩
                  have hlt3 : (k : Int) < (m : Int) := by omega
                  clear hset hg hyb hz0 hz1 hgq
                  go_wp2_with fail
                  exact ⟨⟨k + 1, by omega, by go_num, HBX, HPX, HX, HHX⟩, by simp [intOf]; omega⟩
                · have hlt3 : ¬ (k : Int) < (m : Int) := by omega
                  clear hlt2
                  obtain ⟨t0, t1, t2, t3, t4, t5⟩ := six_cells HHV.out
                  obtain ⟨wE, hwE⟩ : ∃ wE, wE = wv := ⟨_, rfl⟩
                  have HBE : Aside0 (Below w.heap.size w wE) := ⟨by rw [hwE]; exact HBV.out⟩
                  have HTE : Aside0 (TwoE w.heap.size wE p s2 x s2 (fun _ => False)) := ⟨by rw [hwE]; exact HTV.out.below (Below.refl _ _) (fun _ h => h.elim) (fun _ h => h.elim)⟩
                  clear HOV HTV HBV
                  go_wp2_with fail
                  rw [← hwE]
                  clear t0 t1 t2 t3 t4 t5 hwE HHV
                  have hok2 : s2.ok := by
                    obtain ⟨F, h1⟩ := HTE.out.fst
                    exact h1.is.2.2
                  obtain ⟨F, hF⟩ := HTE.out.fst
                  have HF := Aside0.mk hF
                  obtain ⟨b5, hb5⟩ : ∃ b5, b5 = wE.heap.size := ⟨_, rfl⟩
                  have HWB : Aside0 (w.heap.size ≤ b5) := ⟨by rw [hb5]; exact HBE.out.size⟩
                  obtain ⟨n, hn⟩ : ∃ n, n = s2.frames.length := ⟨_, rfl⟩
                  have hn16 : n ≤ 16 := by have := (Es.frames_bound hok2).2.2.2; omega
                  have HN := Aside0.mk hn
                  have HFC := Aside0.mk (eframes_calls wE p s2 F hF)
                  rw [← hn, ← hb5] at HFC
                  clear hF hok2 hn
                  go_wp2_with fail
                  refine HFC.out.mono ?_
                  rintro e w5 ⟨A5, c5, rfl, hfw, hbw⟩
                  have HB5 := Aside0.mk (HBE.out.trans (hbw.mono HWB.out))
                  have HT5 : Aside0 (TwoE w.heap.size w5 p s2 x s2 (fun k => b5 ≤ k ∧ k < w5.heap.size)) := ⟨HTE.out.below (by rw [← hb5]; exact hbw) (fun k h => .inl (by rw [← hb5]; exact h.1)) (fun _ h => h.2)⟩
                  have HFW := Aside0.mk hfw
                  have HB55 : Aside0 (b5 ≤ w5.heap.size) := ⟨by rw [hb5]; exact hbw.size⟩
                  clear hfw hbw hb5 HFC
                  obtain ⟨G, hG⟩ := HT5.out.snd
                  have HG := Aside0.mk hG
                  obtain ⟨F5, hF5⟩ := HT5.out.fst
                  have HF5 := Aside0.mk hF5
                  obtain ⟨n2, hn2⟩ : ∃ n2, n2 = s2.q.length := ⟨_, rfl⟩
                  obtain ⟨ex, hex⟩ : ∃ ex, ex = s2.exp := ⟨_, rfl⟩
                  obtain ⟨Ay, cy, hy2, hy4⟩ : ∃ Ay cy, w5.cell? ⟨x, 2, none⟩ = some (.slice Ay n2 cy) ∧ w5.cell? ⟨x, 4, none⟩ = some (.int .i64 ex) := by
                    obtain ⟨v, hh, hr, _⟩ := hG
                    obtain ⟨Ay, cy, rfl, _⟩ := hr.form
                    obtain ⟨⟨_, _, e2, _, e4⟩, _⟩ := five_cells hh
                    exact ⟨Ay, cy, by rw [hn2]; exact e2, by rw [hex]; exact e4⟩
                  have HEC : Aside0 (∀ W, Below w5.heap.size w5 W → W.cell? ⟨x, 2, none⟩ = some (.slice Ay n2 cy) ∧ W.cell? ⟨x, 4, none⟩ = some (.int .i64 ex)) := ⟨fun W hW => ⟨(hW.cell (World.block_lt_of_cell? _ _ hy2)).trans hy2, (hW.cell (World.block_lt_of_cell? _ _ hy4)).trans hy4⟩⟩
                  have HDF : Aside0 (∀ W, Below w5.heap.size w5 W → Calls Try.prog 22 #[.pointer (some ⟨x, 0, none⟩)] W (fun e W' => ∃ A c b2, e = .returned (.slice A n c) ∧ FM W' b2 (.slice A n c) s2.frames ∧ Below w5.heap.size w5 W')) := ⟨fun W hW => by
                    refine (dframes_calls W x s2 G (HG.out.below hW)).mono ?_
                    rw [← HN.out]
                    rintro e W' ⟨A, c, rfl, hm, hb⟩
                    exact ⟨A, c, _, rfl, hm, hW.trans (hb.mono hW.size)⟩⟩
                  have HSF : Aside0 (∀ W A c b2, Below w5.heap.size w5 W → FM W b2 (.slice A n c) s2.frames → Calls Try.prog 21 #[.slice A5 n c5, .slice A n c] W (fun e W' => e = .returned (.bool true) ∧ Below w5.heap.size w5 W')) := ⟨fun W A c b2 hW hm => by
                    have h1 := (HFW.out.below hW).fm
                    rw [HN.out] at h1 hm ⊢
                    refine (sframes_calls W s2.frames A5 A c5 c _ b2 h1 hm (by rw [← HN.out]; omega)).mono ?_
                    rintro e W' ⟨rfl, hb⟩
                    exact ⟨rfl, hW.trans (hb.mono hW.size)⟩⟩
                  have HWT : Aside0 (∀ W, Below w5.heap.size w5 W → Calls Try.prog 15 #[.pointer (some ⟨p, 0, none⟩)] W fun e w' => e = .returned (.int .i64 n2) ∧ w' = W) := ⟨fun W hW => by rw [hn2]; exact ewaiting_calls W p s2 F5 (HF5.out.below hW)⟩
                  have HCM : Aside0 (∀ W, Below w5.heap.size w5 W → Calls Try.prog 23 #[.pointer (some ⟨p, 0, none⟩)] W fun e w' => e = .returned (.int .i64 ex) ∧ w' = W) := ⟨fun W hW => by rw [hex]; exact ecame_calls W p s2 F5 (HF5.out.below hW)⟩
                  have HBD : Aside0 (Below w5.heap.size w5 w5.drew) := ⟨below_drew (Below.refl _ _)⟩
                  have hq2 : ((n2 : Int) != (n2 : Int)) = false := bne_self_eq_false _
                  have hq3 : ((ex : Int) != (ex : Int)) = false := bne_self_eq_false _
                  clear hG hF5 hn2 hex hy2 hy4
                  go_wp2_with fail
                  go_region_held_law (fun W => W.cell? ⟨x, 2, none⟩ = some (.slice Ay n2 cy) ∧ W.cell? ⟨x, 4, none⟩ = some (.int .i64 ex)) (exact HEC.out _ (Aside0.out (by assumption)))
                    (first
                     | (go_at_call 22; refine (HDF.out _ (Aside0.out (by assumption))).mono ?_; rintro e wa ⟨A6, c6, b6, rfl, hma, hba⟩; have HMa := Aside0.mk hma; have HBa := Aside0.mk hba; clear hma hba)
                     | (go_at_call 21; refine (HSF.out _ _ _ _ (Aside0.out (by assumption)) (Aside0.out (by assumption))).mono ?_; rintro e wb ⟨rfl, hbb⟩; have HBb := Aside0.mk hbb; clear hbb)
                     | (go_at_call 15; refine (HWT.out _ (Aside0.out (by assumption))).mono ?_; rintro e w' ⟨rfl, hw'⟩; have hw' := hw'.symm; subst hw')
                     | (go_at_call 23; refine (HCM.out _ (Aside0.out (by assumption))).mono ?_; rintro e w' ⟨rfl, hw'⟩; have hw' := hw'.symm; subst hw'))
                  all_goals
                    have HBW := Aside0.mk (HB5.out.trans (HBb.out.mono HB5.out.size))
                    have HBZ : Aside0 (b5 ≤ wb.heap.size) := ⟨Nat.le_trans HB55.out HBb.out.size⟩
                    have HX : Aside0 (TwoE w.heap.size wb p s2 x s2 (fun k => b5 ≤ k ∧ k < wb.heap.size)) := ⟨HT5.out.below HBb.out (fun k h => by
                      rcases Nat.lt_or_ge k w5.heap.size with h2 | h2
                      · exact .inr ⟨h.1, h2⟩
                      · exact .inl h2) (fun _ h => h.2)⟩
                    have HFI : Aside0 (FI wb b5 (.slice A5 n c5) n) := ⟨by
                      have := (HFW.out.below HBb.out).fi
                      rw [← HN.out] at this
                      exact this⟩
                    obtain ⟨hz, hhz⟩ : ∃ hz, hz = wb.heap.size := ⟨_, rfl⟩
                    have HHZ : Aside0 (wb.heap.size = hz) := ⟨hhz.symm⟩
                    rw [← hhz] at HX
                    clear hhz HDF HSF HWT HCM HEC hq2 hq3 HBb
                    go_wp2_with fail
                    go_loopw [20] (fun v20 wy => ∃ j : Nat, j ≤ n ∧ v20 = .int .i64 j ∧ Aside0 (Below w.heap.size w wy) ∧ Aside0 (TwoE w.heap.size wy p s2 x s2 (fun k => b5 ≤ k ∧ k < hz)) ∧ Aside0 (FI wy b5 (.slice A5 n c5) n) ∧ Aside0 (wy.heap.size = hz)) (fun v _ => n - (intOf v).toNat)
                    case atStart => exact ⟨0, by omega, rfl, HBW, HX, HFI, HHZ⟩
                    case round =>
                      obtain ⟨wy, hwy⟩ : ∃ wy, wy = wr := ⟨_, rfl⟩
                      subst hwy
                      obtain ⟨j, hj, rfl, HBY, HTY, HIY, HZY⟩ := hrel
                      by_cases hjl : j < n
                      · have hjl' : (j : Int) < (n : Int) := by omega
                        obtain ⟨ae, Au, m, du, rfl, hm63, k9, _⟩ := HIY.out.at hjl
                        have HK9 : Aside0 (wy.cell? ⟨(ae.add (j * 4)).block, (ae.add (j * 4)).off + 3, none⟩ = some (.slice Au m du)) := ⟨k9⟩
                        clear k9
                        go_wp2_with fail
                        go_loopw [21] (fun v21 wz => ∃ z : Nat, z ≤ m ∧ v21 = .int .i64 z ∧ Aside0 (Below w.heap.size w wz) ∧ Aside0 (TwoE w.heap.size wz p s2 x s2 (fun k => b5 ≤ k ∧ k < hz)) ∧ Aside0 (FI wz b5 (.slice (some ae) n c5) n) ∧ Aside0 (wz.heap.size = hz) ∧ Aside0 (wz.cell? ⟨(ae.add (j * 4)).block, (ae.add (j * 4)).off + 3, none⟩ = some (.slice Au m du))) (fun v _ => m - (intOf v).toNat)
                        case atStart => exact ⟨0, by omega, rfl, HBY, HTY, HIY, HZY, HK9⟩
                        case round =>
                          obtain ⟨wz, hwz⟩ : ∃ wz, wz = wr := ⟨_, rfl⟩
                          subst hwz
                          obtain ⟨z, hz1, rfl, HBQ, HTQ, HIQ, HZQ, HKQ⟩ := hrel
                          have kq := HKQ.out
                          by_cases hzl : z < m
                          · have hzl' : (z : Int) < (m : Int) := by omega
                            obtain ⟨ae', Au', m', du', ea, _, kq', hst⟩ := HIQ.out.at hjl
                            injection ea with ea
                            subst ea
                            rw [kq] at kq'
                            injection kq' with kq'
                            injection kq' with ka km kd'
                            subst ka km kd'
                            obtain ⟨g, off, y, rfl, hg, hgl, hc, hfz, hfi, hkk⟩ := hst z hzl
                            have HFI2 := Aside0.mk hfi
                            have HKK2 := Aside0.mk hkk
                            have HSZ2 : Aside0 ((wz.setCell ⟨g, off + z, none⟩ (.int .u8 9)).heap.size = hz) := ⟨by rw [← HZQ.out]; simp [World.setCell]⟩
                            have HTX := Aside0.mk (HTQ.out.poke (W' := wz.setCell ⟨g, off + z, none⟩ (.int .u8 9)) (by simp [World.setCell]) (fun k hk _ => Below.heap_setCell wz ⟨g, off + z, none⟩ _ k (fun e => hk ⟨e ▸ hg, by rw [e, ← HZQ.out]; exact hgl⟩)))
                            have HBX := Aside0.mk (HBQ.out.setCell (p := ⟨g, off + z, none⟩) (Nat.le_trans HWB.out hg) (.int .u8 9))
                            clear hst hfi hkk hg hgl
                            go_wp2_with fail
                            exact ⟨⟨z + 1, by omega, by go_num, HBX, HTX, HFI2, HSZ2, HKK2⟩, by simp [intOf]; omega⟩
                          · have hzl' : ¬ (z : Int) < (m : Int) := by omega
                            clear hzl
                            go_wp2_with fail
                            exact ⟨⟨j + 1, by omega, by go_num, HBQ, HTQ, HIQ, HZQ⟩, by simp [intOf]; omega⟩
                      · have hjl' : ¬ (j : Int) < (n : Int) := by omega
                        clear hjl
                        go_wp2_with fail
                        exact ⟨⟨i + 1, s2, by omega, by omega, by go_num, HBY, ⟨HTY.out.below (Below.refl _ _) (fun _ h => h.elim) (fun _ h => h.elim)⟩⟩, by simp [intOf]; omega⟩
          · have b0 : (kd == 0) = false := beq_eq_false_iff_ne.2 (by omega)
            have b1 : (kd == 1) = true := beq_iff_eq.2 hk
            clear hk
            clear hx3
            have hx3 := (HCQ.out _ HH3.out).1
            go_wp2_with fail
            go_quiet (fail)
            obtain ⟨wb, hwb⟩ : ∃ wb, wb = w3.drewN nq := ⟨_, rfl⟩
            have hbw : Below w3.heap.size w3 wb := by rw [hwb]; exact pw_below_drewN (Below.refl _ _) _
            have HBb := Aside0.mk (HB3.out.trans (hbw.mono HB3.out.size))
            obtain ⟨s2, hs2⟩ : ∃ s2, s2 = s := ⟨_, rfl⟩
            have HTb : Aside0 (TwoE w.heap.size wb p s2 x s2 X) := ⟨by
              rw [hs2]
              exact HT3.out.below hbw (fun k h => .inr h) (fun k h => by obtain ⟨_, _, _, _, h4, _⟩ := HT3.out; exact Nat.lt_of_lt_of_le (h4 k h) hbw.size)⟩
            have HOz : Aside0 (∃ zs : List Int, zs.length = b.length ∧ Bytes zs ∧ OB wb top (.slice A7 b.length c7) zs) := ⟨_, rfl, HBY.out, HO3.out.below hbw⟩
            have HHb : Aside0 (wb.heap[q]? = some (.cells #[.int .i64 kd, .slice B b.length c1, .int .u32 f.s, .int .i64 f.q, .int .i64 f.k, .slice E f.d.length d1] 53 (0, 0))) := ⟨blk_keep HH3.out hbw⟩
            rw [← hwb]
            clear hs2 hwb hbw hx3
            all_goals
              obtain ⟨m, hm⟩ : ∃ m, m = b.length := ⟨_, rfl⟩
              have hbl2 : m ≤ 1000 := by rw [hm]; exact HLB.out
              have HOb : Aside0 (∃ zs : List Int, zs.length = m ∧ Bytes zs ∧ OB wb top (.slice A7 m c7) zs) := ⟨by rw [hm]; exact HOz.out⟩
              have HEA' : Aside0 (∀ k, (Value.slice A7 m c7).ownBlock = some k → X k) := ⟨by rw [hm]; exact HEA.out⟩
              rw [← hm]
              clear HOz HEA hm
              have HEA := HEA'
              go_wp2_with fail
              go_loopw [14] (fun v14 wv => ∃ k : Nat, k ≤ m ∧ v14 = .int .i64 k ∧ Aside0 (Below w.heap.size w wv) ∧ Aside0 (TwoE w.heap.size wv p s2 x s2 X) ∧ Aside0 (∃ zs : List Int, zs.length = m ∧ Bytes zs ∧ OB wv top (.slice A7 m c7) zs) ∧ Aside0 (wv.heap[q]? = some (.cells #[.int .i64 kd, .slice B b.length c1, .int .u32 f.s, .int .i64 f.q, .int .i64 f.k, .slice E f.d.length d1] 53 (0, 0)))) (fun v _ => m - (intOf v).toNat)
              case atStart => exact ⟨0, by omega, rfl, HBb, HTb, HOb, HHb⟩
              case round =>
                obtain ⟨wv, hwv⟩ : ∃ wv, wv = wr := ⟨_, rfl⟩
                subst hwv
                obtain ⟨k, hk, rfl, HBV, HTV, HOV, HHV⟩ := hrel
                by_cases hlt2 : k < m
                · obtain ⟨g, z, rfl, hg, hz0, hz1, hc, hf, hset⟩ := own_put HOV.out hlt2
                  obtain ⟨y, hy, hyb⟩ := xor_ff hz0 hz1
                  have HX := Aside0.mk (hset y hyb)
                  have hgq : q ≠ g := by have := HQT.out; omega
                  have HPX := Aside0.mk (HTV.out.poke (W' := wv.setCell ⟨g, k, none⟩ (.int .u8 y)) (by simp [World.setCell]) (fun k' hn _ => Below.heap_setCell wv ⟨g, k, none⟩ _ k' (fun e => hn (e ▸ HEA.out g rfl))))
                  have HBX := Aside0.mk (HBV.out.setCell (p := ⟨g, k, none⟩) (Nat.le_trans HTOP.out hg) (.int .u8 y))
                  have HHX : Aside0 ((wv.setCell ⟨g, k, none⟩ (.int .u8 y)).heap[q]? = some (.cells #[.int .i64 kd, .slice B b.length c1, .int .u32 f.s, .int .i64 f.q, .int .i64 f.k, .slice E f.d.length d1] 53 (0, 0))) := ⟨(Below.heap_setCell wv ⟨g, k, none⟩ _ q hgq).trans HHV.out⟩
                  have hlt3 : (k : Int) < (m : Int) := by omega
                  clear hset hg hyb hz0 hz1 hgq
                  go_wp2_with fail
                  exact ⟨⟨k + 1, by omega, by go_num, HBX, HPX, HX, HHX⟩, by simp [intOf]; omega⟩
                · have hlt3 : ¬ (k : Int) < (m : Int) := by omega
                  clear hlt2
                  obtain ⟨t0, t1, t2, t3, t4, t5⟩ := six_cells HHV.out
                  have HON1 := Aside0.mk (HTV.out.onx (r := s2.on f) (fun F hF hFb => eon_calls wv p s2 F f E d1 hF (Kd.C_below HED.out HBV.out) HFO.out (by have := HFL.out; omega) (fun W hk => Kd.C_below HED.out (below_kept HBV.out hk HBV.out.size hFb))))
                  go_wp2_with fail
                  refine HON1.out.mono ?_
                  rintro e wn ⟨A8, d8, rfl, ho8, ht8, hk8⟩
                  have HHN := Aside0.mk ((hk8.block q HEQ.out (Array.getElem?_eq_some_iff.1 HHV.out).1).trans HHV.out)
                  have HBN := Aside0.mk (HBV.out.trans hk8.below)
                  have HON2 := Aside0.mk (ht8.ron (r := s2.on f) (fun F hF hFb => don_calls wn x s2 F f E d1 hF HFO.out (by have := HFL.out; omega) (fun W hk => Kd.C_below HED.out (below_kept HBN.out hk HBN.out.size hFb))))
                  have HO8 := Aside0.mk ho8
                  have HSV : Aside0 (wv.heap.size ≤ wn.heap.size) := ⟨hk8.below.size⟩
                  clear HON1 ho8 ht8 hk8 t0 t1 t2 t3 t4 t5
                  obtain ⟨t0, t1, t2, t3, t4, t5⟩ := six_cells HHN.out
                  go_wp2_with fail
                  refine HON2.out.mono ?_
                  rintro e wE ⟨A9, d9, rfl, ho9, ht9, hk9⟩
                  have HBE := Aside0.mk (HBN.out.trans hk9.below)
                  have ho89 := own_move HO8.out (fun k e => hk9.block k (.inr ⟨own_base HO8.out k e, own_lt HO8.out k e⟩) (own_lt HO8.out k e))
                  have cv1 := OB.string ho89
                  have cv2 := OB.string ho9
                  obtain ⟨s3, hs3⟩ : ∃ s3, s3 = (s2.on f).1 := ⟨_, rfl⟩
                  obtain ⟨er, her⟩ : ∃ er, er = (s2.on f).2.2 := ⟨_, rfl⟩
                  obtain ⟨S, hS⟩ : ∃ S, S = strOfNums (s2.on f).2.1 := ⟨_, rfl⟩
                  obtain ⟨lt, hlt9⟩ : ∃ lt, lt = (s2.on f).2.1.length := ⟨_, rfl⟩
                  have HTE : Aside0 (TwoE w.heap.size wE p s3 x s3 (fun _ => False)) := ⟨by rw [hs3]; exact ht9.below (Below.refl _ _) (fun _ h => h.elim) (fun _ h => h.elim)⟩
                  rw [← hS, ← hlt9] at cv1 cv2
                  rw [← her, ← hlt9]
                  have n2 : (S.toList == S.toList) = true := beq_self_eq_true _
                  have hee : (er != er) = false := bne_self_eq_false _
                  clear HON2 HO8 ho9 ht9 hk9 ho89 hs3 her hS hlt9 t0 t1 t2 t3 t4 t5 HHN HHV HBV HTV HOV
                  go_wp2_with fail
                  clear cv1 cv2 n2 hee
                  have hok2 : s3.ok := by
                    obtain ⟨F, h1⟩ := HTE.out.fst
                    exact h1.is.2.2
                  obtain ⟨F, hF⟩ := HTE.out.fst
                  have HF := Aside0.mk hF
                  obtain ⟨b5, hb5⟩ : ∃ b5, b5 = wE.heap.size := ⟨_, rfl⟩
                  have HWB : Aside0 (w.heap.size ≤ b5) := ⟨by rw [hb5]; exact HBE.out.size⟩
                  obtain ⟨n, hn⟩ : ∃ n, n = s3.frames.length := ⟨_, rfl⟩
                  have hn16 : n ≤ 16 := by have := (Es.frames_bound hok2).2.2.2; omega
                  have HN := Aside0.mk hn
                  have HFC := Aside0.mk (eframes_calls wE p s3 F hF)
                  rw [← hn, ← hb5] at HFC
                  clear hF hok2 hn
                  go_wp2_with fail
                  refine HFC.out.mono ?_
                  rintro e w5 ⟨A5, c5, rfl, hfw, hbw⟩
                  have HB5 := Aside0.mk (HBE.out.trans (hbw.mono HWB.out))
                  have HT5 : Aside0 (TwoE w.heap.size w5 p s3 x s3 (fun k => b5 ≤ k ∧ k < w5.heap.size)) := ⟨HTE.out.below (by rw [← hb5]; exact hbw) (fun k h => .inl (by rw [← hb5]; exact h.1)) (fun _ h => h.2)⟩
                  have HFW := Aside0.mk hfw
                  have HB55 : Aside0 (b5 ≤ w5.heap.size) := ⟨by rw [hb5]; exact hbw.size⟩
                  clear hfw hbw hb5 HFC
                  obtain ⟨G, hG⟩ := HT5.out.snd
                  have HG := Aside0.mk hG
                  obtain ⟨F5, hF5⟩ := HT5.out.fst
                  have HF5 := Aside0.mk hF5
                  obtain ⟨n2, hn2⟩ : ∃ n2, n2 = s3.q.length := ⟨_, rfl⟩
                  obtain ⟨ex, hex⟩ : ∃ ex, ex = s3.exp := ⟨_, rfl⟩
                  obtain ⟨Ay, cy, hy2, hy4⟩ : ∃ Ay cy, w5.cell? ⟨x, 2, none⟩ = some (.slice Ay n2 cy) ∧ w5.cell? ⟨x, 4, none⟩ = some (.int .i64 ex) := by
                    obtain ⟨v, hh, hr, _⟩ := hG
                    obtain ⟨Ay, cy, rfl, _⟩ := hr.form
                    obtain ⟨⟨_, _, e2, _, e4⟩, _⟩ := five_cells hh
                    exact ⟨Ay, cy, by rw [hn2]; exact e2, by rw [hex]; exact e4⟩
                  have HEC : Aside0 (∀ W, Below w5.heap.size w5 W → W.cell? ⟨x, 2, none⟩ = some (.slice Ay n2 cy) ∧ W.cell? ⟨x, 4, none⟩ = some (.int .i64 ex)) := ⟨fun W hW => ⟨(hW.cell (World.block_lt_of_cell? _ _ hy2)).trans hy2, (hW.cell (World.block_lt_of_cell? _ _ hy4)).trans hy4⟩⟩
                  have HDF : Aside0 (∀ W, Below w5.heap.size w5 W → Calls Try.prog 22 #[.pointer (some ⟨x, 0, none⟩)] W (fun e W' => ∃ A c b2, e = .returned (.slice A n c) ∧ FM W' b2 (.slice A n c) s3.frames ∧ Below w5.heap.size w5 W')) := ⟨fun W hW => by
                    refine (dframes_calls W x s3 G (HG.out.below hW)).mono ?_
                    rw [← HN.out]
                    rintro e W' ⟨A, c, rfl, hm, hb⟩
                    exact ⟨A, c, _, rfl, hm, hW.trans (hb.mono hW.size)⟩⟩
                  have HSF : Aside0 (∀ W A c b2, Below w5.heap.size w5 W → FM W b2 (.slice A n c) s3.frames → Calls Try.prog 21 #[.slice A5 n c5, .slice A n c] W (fun e W' => e = .returned (.bool true) ∧ Below w5.heap.size w5 W')) := ⟨fun W A c b2 hW hm => by
                    have h1 := (HFW.out.below hW).fm
                    rw [HN.out] at h1 hm ⊢
                    refine (sframes_calls W s3.frames A5 A c5 c _ b2 h1 hm (by rw [← HN.out]; omega)).mono ?_
                    rintro e W' ⟨rfl, hb⟩
                    exact ⟨rfl, hW.trans (hb.mono hW.size)⟩⟩
                  have HWT : Aside0 (∀ W, Below w5.heap.size w5 W → Calls Try.prog 15 #[.pointer (some ⟨p, 0, none⟩)] W fun e w' => e = .returned (.int .i64 n2) ∧ w' = W) := ⟨fun W hW => by rw [hn2]; exact ewaiting_calls W p s3 F5 (HF5.out.below hW)⟩
                  have HCM : Aside0 (∀ W, Below w5.heap.size w5 W → Calls Try.prog 23 #[.pointer (some ⟨p, 0, none⟩)] W fun e w' => e = .returned (.int .i64 ex) ∧ w' = W) := ⟨fun W hW => by rw [hex]; exact ecame_calls W p s3 F5 (HF5.out.below hW)⟩
                  have HBD : Aside0 (Below w5.heap.size w5 w5.drew) := ⟨below_drew (Below.refl _ _)⟩
                  have hq2 : ((n2 : Int) != (n2 : Int)) = false := bne_self_eq_false _
                  have hq3 : ((ex : Int) != (ex : Int)) = false := bne_self_eq_false _
                  clear hG hF5 hn2 hex hy2 hy4
                  go_wp2_with fail
                  go_region_held_law (fun W => W.cell? ⟨x, 2, none⟩ = some (.slice Ay n2 cy) ∧ W.cell? ⟨x, 4, none⟩ = some (.int .i64 ex)) (exact HEC.out _ (Aside0.out (by assumption)))
                    (first
                     | (go_at_call 22; refine (HDF.out _ (Aside0.out (by assumption))).mono ?_; rintro e wa ⟨A6, c6, b6, rfl, hma, hba⟩; have HMa := Aside0.mk hma; have HBa := Aside0.mk hba; clear hma hba)
                     | (go_at_call 21; refine (HSF.out _ _ _ _ (Aside0.out (by assumption)) (Aside0.out (by assumption))).mono ?_; rintro e wb ⟨rfl, hbb⟩; have HBb := Aside0.mk hbb; clear hbb)
                     | (go_at_call 15; refine (HWT.out _ (Aside0.out (by assumption))).mono ?_; rintro e w' ⟨rfl, hw'⟩; have hw' := hw'.symm; subst hw')
                     | (go_at_call 23; refine (HCM.out _ (Aside0.out (by assumption))).mono ?_; rintro e w' ⟨rfl, hw'⟩; have hw' := hw'.symm; subst hw'))
                  all_goals
                    have HBW := Aside0.mk (HB5.out.trans (HBb.out.mono HB5.out.size))
                    have HBZ : Aside0 (b5 ≤ wb.heap.size) := ⟨Nat.le_trans HB55.out HBb.out.size⟩
                    have HX : Aside0 (TwoE w.heap.size wb p s3 x s3 (fun k => b5 ≤ k ∧ k < wb.heap.size)) := ⟨HT5.out.below HBb.out (fun k h => by
                      rcases Nat.lt_or_ge k w5.heap.size with h2 | h2
                      · exact .inr ⟨h.1, h2⟩
                      · exact .inl h2) (fun _ h => h.2)⟩
                    have HFI : Aside0 (FI wb b5 (.slice A5 n c5) n) := ⟨by
                      have := (HFW.out.below HBb.out).fi
                      rw [← HN.out] at this
                      exact this⟩
                    obtain ⟨hz, hhz⟩ : ∃ hz, hz = wb.heap.size := ⟨_, rfl⟩
                    have HHZ : Aside0 (wb.heap.size = hz) := ⟨hhz.symm⟩
                    rw [← hhz] at HX
                    clear hhz HDF HSF HWT HCM HEC hq2 hq3 HBb
                    go_wp2_with fail
                    go_loopw [20] (fun v20 wy => ∃ j : Nat, j ≤ n ∧ v20 = .int .i64 j ∧ Aside0 (Below w.heap.size w wy) ∧ Aside0 (TwoE w.heap.size wy p s3 x s3 (fun k => b5 ≤ k ∧ k < hz)) ∧ Aside0 (FI wy b5 (.slice A5 n c5) n) ∧ Aside0 (wy.heap.size = hz)) (fun v _ => n - (intOf v).toNat)
                    case atStart => exact ⟨0, by omega, rfl, HBW, HX, HFI, HHZ⟩
                    case round =>
                      obtain ⟨wy, hwy⟩ : ∃ wy, wy = wr := ⟨_, rfl⟩
                      subst hwy
                      obtain ⟨j, hj, rfl, HBY, HTY, HIY, HZY⟩ := hrel
                      by_cases hjl : j < n
                      · have hjl' : (j : Int) < (n : Int) := by omega
                        obtain ⟨ae, Au, m, du, rfl, hm63, k9, _⟩ := HIY.out.at hjl
                        have HK9 : Aside0 (wy.cell? ⟨(ae.add (j * 4)).block, (ae.add (j * 4)).off + 3, none⟩ = some (.slice Au m du)) := ⟨k9⟩
                        clear k9
                        go_wp2_with fail
                        go_loopw [21] (fun v21 wz => ∃ z : Nat, z ≤ m ∧ v21 = .int .i64 z ∧ Aside0 (Below w.heap.size w wz) ∧ Aside0 (TwoE w.heap.size wz p s3 x s3 (fun k => b5 ≤ k ∧ k < hz)) ∧ Aside0 (FI wz b5 (.slice (some ae) n c5) n) ∧ Aside0 (wz.heap.size = hz) ∧ Aside0 (wz.cell? ⟨(ae.add (j * 4)).block, (ae.add (j * 4)).off + 3, none⟩ = some (.slice Au m du))) (fun v _ => m - (intOf v).toNat)
                        case atStart => exact ⟨0, by omega, rfl, HBY, HTY, HIY, HZY, HK9⟩
                        case round =>
                          obtain ⟨wz, hwz⟩ : ∃ wz, wz = wr := ⟨_, rfl⟩
                          subst hwz
                          obtain ⟨z, hz1, rfl, HBQ, HTQ, HIQ, HZQ, HKQ⟩ := hrel
                          have kq := HKQ.out
                          by_cases hzl : z < m
                          · have hzl' : (z : Int) < (m : Int) := by omega
                            obtain ⟨ae', Au', m', du', ea, _, kq', hst⟩ := HIQ.out.at hjl
                            injection ea with ea
                            subst ea
                            rw [kq] at kq'
                            injection kq' with kq'
                            injection kq' with ka km kd'
                            subst ka km kd'
                            obtain ⟨g, off, y, rfl, hg, hgl, hc, hfz, hfi, hkk⟩ := hst z hzl
                            have HFI2 := Aside0.mk hfi
                            have HKK2 := Aside0.mk hkk
                            have HSZ2 : Aside0 ((wz.setCell ⟨g, off + z, none⟩ (.int .u8 9)).heap.size = hz) := ⟨by rw [← HZQ.out]; simp [World.setCell]⟩
                            have HTX := Aside0.mk (HTQ.out.poke (W' := wz.setCell ⟨g, off + z, none⟩ (.int .u8 9)) (by simp [World.setCell]) (fun k hk _ => Below.heap_setCell wz ⟨g, off + z, none⟩ _ k (fun e => hk ⟨e ▸ hg, by rw [e, ← HZQ.out]; exact hgl⟩)))
                            have HBX := Aside0.mk (HBQ.out.setCell (p := ⟨g, off + z, none⟩) (Nat.le_trans HWB.out hg) (.int .u8 9))
                            clear hst hfi hkk hg hgl
                            go_wp2_with fail
                            exact ⟨⟨z + 1, by omega, by go_num, HBX, HTX, HFI2, HSZ2, HKK2⟩, by simp [intOf]; omega⟩
                          · have hzl' : ¬ (z : Int) < (m : Int) := by omega
                            clear hzl
                            go_wp2_with fail
                            exact ⟨⟨j + 1, by omega, by go_num, HBQ, HTQ, HIQ, HZQ⟩, by simp [intOf]; omega⟩
                      · have hjl' : ¬ (j : Int) < (n : Int) := by omega
                        clear hjl
                        go_wp2_with fail
                        exact ⟨⟨i + 1, s3, by omega, by omega, by go_num, HBY, ⟨HTY.out.below (Below.refl _ _) (fun _ h => h.elim) (fun _ h => h.elim)⟩⟩, by simp [intOf]; omega⟩
          · have b0 : (kd == 0) = false := beq_eq_false_iff_ne.2 e0
            have b1 : (kd == 1) = false := beq_eq_false_iff_ne.2 e1
            clear e0 e1
            clear hx3
            have hx3 := (HCQ.out _ HH3.out).1
            go_wp2_with fail
            go_quiet (fail)
            obtain ⟨wb, hwb⟩ : ∃ wb, wb = w3.drewN nq := ⟨_, rfl⟩
            have hbw : Below w3.heap.size w3 wb := by rw [hwb]; exact pw_below_drewN (Below.refl _ _) _
            have HBb := Aside0.mk (HB3.out.trans (hbw.mono HB3.out.size))
            obtain ⟨s2, hs2⟩ : ∃ s2, s2 = s := ⟨_, rfl⟩
            have HTb : Aside0 (TwoE w.heap.size wb p s2 x s2 X) := ⟨by
              rw [hs2]
              exact HT3.out.below hbw (fun k h => .inr h) (fun k h => by obtain ⟨_, _, _, _, h4, _⟩ := HT3.out; exact Nat.lt_of_lt_of_le (h4 k h) hbw.size)⟩
            have HOz : Aside0 (∃ zs : List Int, zs.length = b.length ∧ Bytes zs ∧ OB wb top (.slice A7 b.length c7) zs) := ⟨_, rfl, HBY.out, HO3.out.below hbw⟩
            have HHb : Aside0 (wb.heap[q]? = some (.cells #[.int .i64 kd, .slice B b.length c1, .int .u32 f.s, .int .i64 f.q, .int .i64 f.k, .slice E f.d.length d1] 53 (0, 0))) := ⟨blk_keep HH3.out hbw⟩
            rw [← hwb]
            clear hs2 hwb hbw hx3
            all_goals
              obtain ⟨m, hm⟩ : ∃ m, m = b.length := ⟨_, rfl⟩
              have hbl2 : m ≤ 1000 := by rw [hm]; exact HLB.out
              have HOb : Aside0 (∃ zs : List Int, zs.length = m ∧ Bytes zs ∧ OB wb top (.slice A7 m c7) zs) := ⟨by rw [hm]; exact HOz.out⟩
              have HEA' : Aside0 (∀ k, (Value.slice A7 m c7).ownBlock = some k → X k) := ⟨by rw [hm]; exact HEA.out⟩
              rw [← hm]
              clear HOz HEA hm
              have HEA := HEA'
              go_wp2_with fail
              go_loopw [14] (fun v14 wv => ∃ k : Nat, k ≤ m ∧ v14 = .int .i64 k ∧ Aside0 (Below w.heap.size w wv) ∧ Aside0 (TwoE w.heap.size wv p s2 x s2 X) ∧ Aside0 (∃ zs : List Int, zs.length = m ∧ Bytes zs ∧ OB wv top (.slice A7 m c7) zs) ∧ Aside0 (wv.heap[q]? = some (.cells #[.int .i64 kd, .slice B b.length c1, .int .u32 f.s, .int .i64 f.q, .int .i64 f.k, .slice E f.d.length d1] 53 (0, 0)))) (fun v _ => m - (intOf v).toNat)
              case atStart => exact ⟨0, by omega, rfl, HBb, HTb, HOb, HHb⟩
              case round =>
                obtain ⟨wv, hwv⟩ : ∃ wv, wv = wr := ⟨_, rfl⟩
                subst hwv
                obtain ⟨k, hk, rfl, HBV, HTV, HOV, HHV⟩ := hrel
                by_cases hlt2 : k < m
                · obtain ⟨g, z, rfl, hg, hz0, hz1, hc, hf, hset⟩ := own_put HOV.out hlt2
                  obtain ⟨y, hy, hyb⟩ := xor_ff hz0 hz1
                  have HX := Aside0.mk (hset y hyb)
                  have hgq : q ≠ g := by have := HQT.out; omega
                  have HPX := Aside0.mk (HTV.out.poke (W' := wv.setCell ⟨g, k, none⟩ (.int .u8 y)) (by simp [World.setCell]) (fun k' hn _ => Below.heap_setCell wv ⟨g, k, none⟩ _ k' (fun e => hn (e ▸ HEA.out g rfl))))
                  have HBX := Aside0.mk (HBV.out.setCell (p := ⟨g, k, none⟩) (Nat.le_trans HTOP.out hg) (.int .u8 y))
                  have HHX : Aside0 ((wv.setCell ⟨g, k, none⟩ (.int .u8 y)).heap[q]? = some (.cells #[.int .i64 kd, .slice B b.length c1, .int .u32 f.s, .int .i64 f.q, .int .i64 f.k, .slice E f.d.length d1] 53 (0, 0))) := ⟨(Below.heap_setCell wv ⟨g, k, none⟩ _ q hgq).trans HHV.out⟩
                  have hlt3 : (k : Int) < (m : Int) := by omega
                  clear hset hg hyb hz0 hz1 hgq
                  go_wp2_with fail
                  exact ⟨⟨k + 1, by omega, by go_num, HBX, HPX, HX, HHX⟩, by simp [intOf]; omega⟩
                · have hlt3 : ¬ (k : Int) < (m : Int) := by omega
                  clear hlt2
                  obtain ⟨t0, t1, t2, t3, t4, t5⟩ := six_cells HHV.out
                  obtain ⟨wE, hwE⟩ : ∃ wE, wE = wv := ⟨_, rfl⟩
                  have HBE : Aside0 (Below w.heap.size w wE) := ⟨by rw [hwE]; exact HBV.out⟩
                  have HTE : Aside0 (TwoE w.heap.size wE p s2 x s2 (fun _ => False)) := ⟨by rw [hwE]; exact HTV.out.below (Below.refl _ _) (fun _ h => h.elim) (fun _ h => h.elim)⟩
                  clear HOV HTV HBV
                  go_wp2_with fail
                  rw [← hwE]
                  clear t0 t1 t2 t3 t4 t5 hwE HHV
                  have hok2 : s2.ok := by
                    obtain ⟨F, h1⟩ := HTE.out.fst
                    exact h1.is.2.2
                  obtain ⟨F, hF⟩ := HTE.out.fst
                  have HF := Aside0.mk hF
                  obtain ⟨b5, hb5⟩ : ∃ b5, b5 = wE.heap.size := ⟨_, rfl⟩
                  have HWB : Aside0 (w.heap.size ≤ b5) := ⟨by rw [hb5]; exact HBE.out.size⟩
                  obtain ⟨n, hn⟩ : ∃ n, n = s2.frames.length := ⟨_, rfl⟩
                  have hn16 : n ≤ 16 := by have := (Es.frames_bound hok2).2.2.2; omega
                  have HN := Aside0.mk hn
                  have HFC := Aside0.mk (eframes_calls wE p s2 F hF)
                  rw [← hn, ← hb5] at HFC
                  clear hF hok2 hn
                  go_wp2_with fail
                  refine HFC.out.mono ?_
                  rintro e w5 ⟨A5, c5, rfl, hfw, hbw⟩
                  have HB5 := Aside0.mk (HBE.out.trans (hbw.mono HWB.out))
                  have HT5 : Aside0 (TwoE w.heap.size w5 p s2 x s2 (fun k => b5 ≤ k ∧ k < w5.heap.size)) := ⟨HTE.out.below (by rw [← hb5]; exact hbw) (fun k h => .inl (by rw [← hb5]; exact h.1)) (fun _ h => h.2)⟩
                  have HFW := Aside0.mk hfw
                  have HB55 : Aside0 (b5 ≤ w5.heap.size) := ⟨by rw [hb5]; exact hbw.size⟩
                  clear hfw hbw hb5 HFC
                  obtain ⟨G, hG⟩ := HT5.out.snd
                  have HG := Aside0.mk hG
                  obtain ⟨F5, hF5⟩ := HT5.out.fst
                  have HF5 := Aside0.mk hF5
                  obtain ⟨n2, hn2⟩ : ∃ n2, n2 = s2.q.length := ⟨_, rfl⟩
                  obtain ⟨ex, hex⟩ : ∃ ex, ex = s2.exp := ⟨_, rfl⟩
                  obtain ⟨Ay, cy, hy2, hy4⟩ : ∃ Ay cy, w5.cell? ⟨x, 2, none⟩ = some (.slice Ay n2 cy) ∧ w5.cell? ⟨x, 4, none⟩ = some (.int .i64 ex) := by
                    obtain ⟨v, hh, hr, _⟩ := hG
                    obtain ⟨Ay, cy, rfl, _⟩ := hr.form
                    obtain ⟨⟨_, _, e2, _, e4⟩, _⟩ := five_cells hh
                    exact ⟨Ay, cy, by rw [hn2]; exact e2, by rw [hex]; exact e4⟩
                  have HEC : Aside0 (∀ W, Below w5.heap.size w5 W → W.cell? ⟨x, 2, none⟩ = some (.slice Ay n2 cy) ∧ W.cell? ⟨x, 4, none⟩ = some (.int .i64 ex)) := ⟨fun W hW => ⟨(hW.cell (World.block_lt_of_cell? _ _ hy2)).trans hy2, (hW.cell (World.block_lt_of_cell? _ _ hy4)).trans hy4⟩⟩
                  have HDF : Aside0 (∀ W, Below w5.heap.size w5 W → Calls Try.prog 22 #[.pointer (some ⟨x, 0, none⟩)] W (fun e W' => ∃ A c b2, e = .returned (.slice A n c) ∧ FM W' b2 (.slice A n c) s2.frames ∧ Below w5.heap.size w5 W')) := ⟨fun W hW => by
                    refine (dframes_calls W x s2 G (HG.out.below hW)).mono ?_
                    rw [← HN.out]
                    rintro e W' ⟨A, c, rfl, hm, hb⟩
                    exact ⟨A, c, _, rfl, hm, hW.trans (hb.mono hW.size)⟩⟩
                  have HSF : Aside0 (∀ W A c b2, Below w5.heap.size w5 W → FM W b2 (.slice A n c) s2.frames → Calls Try.prog 21 #[.slice A5 n c5, .slice A n c] W (fun e W' => e = .returned (.bool true) ∧ Below w5.heap.size w5 W')) := ⟨fun W A c b2 hW hm => by
                    have h1 := (HFW.out.below hW).fm
                    rw [HN.out] at h1 hm ⊢
                    refine (sframes_calls W s2.frames A5 A c5 c _ b2 h1 hm (by rw [← HN.out]; omega)).mono ?_
                    rintro e W' ⟨rfl, hb⟩
                    exact ⟨rfl, hW.trans (hb.mono hW.size)⟩⟩
                  have HWT : Aside0 (∀ W, Below w5.heap.size w5 W → Calls Try.prog 15 #[.pointer (some ⟨p, 0, none⟩)] W fun e w' => e = .returned (.int .i64 n2) ∧ w' = W) := ⟨fun W hW => by rw [hn2]; exact ewaiting_calls W p s2 F5 (HF5.out.below hW)⟩
                  have HCM : Aside0 (∀ W, Below w5.heap.size w5 W → Calls Try.prog 23 #[.pointer (some ⟨p, 0, none⟩)] W fun e w' => e = .returned (.int .i64 ex) ∧ w' = W) := ⟨fun W hW => by rw [hex]; exact ecame_calls W p s2 F5 (HF5.out.below hW)⟩
                  have HBD : Aside0 (Below w5.heap.size w5 w5.drew) := ⟨below_drew (Below.refl _ _)⟩
                  have hq2 : ((n2 : Int) != (n2 : Int)) = false := bne_self_eq_false _
                  have hq3 : ((ex : Int) != (ex : Int)) = false := bne_self_eq_false _
                  clear hG hF5 hn2 hex hy2 hy4
                  go_wp2_with fail
                  go_region_held_law (fun W => W.cell? ⟨x, 2, none⟩ = some (.slice Ay n2 cy) ∧ W.cell? ⟨x, 4, none⟩ = some (.int .i64 ex)) (exact HEC.out _ (Aside0.out (by assumption)))
                    (first
                     | (go_at_call 22; refine (HDF.out _ (Aside0.out (by assumption))).mono ?_; rintro e wa ⟨A6, c6, b6, rfl, hma, hba⟩; have HMa := Aside0.mk hma; have HBa := Aside0.mk hba; clear hma hba)
                     | (go_at_call 21; refine (HSF.out _ _ _ _ (Aside0.out (by assumption)) (Aside0.out (by assumption))).mono ?_; rintro e wb ⟨rfl, hbb⟩; have HBb := Aside0.mk hbb; clear hbb)
                     | (go_at_call 15; refine (HWT.out _ (Aside0.out (by assumption))).mono ?_; rintro e w' ⟨rfl, hw'⟩; have hw' := hw'.symm; subst hw')
                     | (go_at_call 23; refine (HCM.out _ (Aside0.out (by assumption))).mono ?_; rintro e w' ⟨rfl, hw'⟩; have hw' := hw'.symm; subst hw'))
                  all_goals
                    have HBW := Aside0.mk (HB5.out.trans (HBb.out.mono HB5.out.size))
                    have HBZ : Aside0 (b5 ≤ wb.heap.size) := ⟨Nat.le_trans HB55.out HBb.out.size⟩
                    have HX : Aside0 (TwoE w.heap.size wb p s2 x s2 (fun k => b5 ≤ k ∧ k < wb.heap.size)) := ⟨HT5.out.below HBb.out (fun k h => by
                      rcases Nat.lt_or_ge k w5.heap.size with h2 | h2
                      · exact .inr ⟨h.1, h2⟩
                      · exact .inl h2) (fun _ h => h.2)⟩
                    have HFI : Aside0 (FI wb b5 (.slice A5 n c5) n) := ⟨by
                      have := (HFW.out.below HBb.out).fi
                      rw [← HN.out] at this
                      exact this⟩
                    obtain ⟨hz, hhz⟩ : ∃ hz, hz = wb.heap.size := ⟨_, rfl⟩
                    have HHZ : Aside0 (wb.heap.size = hz) := ⟨hhz.symm⟩
                    rw [← hhz] at HX
                    clear hhz HDF HSF HWT HCM HEC hq2 hq3 HBb
                    go_wp2_with fail
                    go_loopw [20] (fun v20 wy => ∃ j : Nat, j ≤ n ∧ v20 = .int .i64 j ∧ Aside0 (Below w.heap.size w wy) ∧ Aside0 (TwoE w.heap.size wy p s2 x s2 (fun k => b5 ≤ k ∧ k < hz)) ∧ Aside0 (FI wy b5 (.slice A5 n c5) n) ∧ Aside0 (wy.heap.size = hz)) (fun v _ => n - (intOf v).toNat)
                    case atStart => exact ⟨0, by omega, rfl, HBW, HX, HFI, HHZ⟩
                    case round =>
                      obtain ⟨wy, hwy⟩ : ∃ wy, wy = wr := ⟨_, rfl⟩
                      subst hwy
                      obtain ⟨j, hj, rfl, HBY, HTY, HIY, HZY⟩ := hrel
                      by_cases hjl : j < n
                      · have hjl' : (j : Int) < (n : Int) := by omega
                        obtain ⟨ae, Au, m, du, rfl, hm63, k9, _⟩ := HIY.out.at hjl
                        have HK9 : Aside0 (wy.cell? ⟨(ae.add (j * 4)).block, (ae.add (j * 4)).off + 3, none⟩ = some (.slice Au m du)) := ⟨k9⟩
                        clear k9
                        go_wp2_with fail
                        go_loopw [21] (fun v21 wz => ∃ z : Nat, z ≤ m ∧ v21 = .int .i64 z ∧ Aside0 (Below w.heap.size w wz) ∧ Aside0 (TwoE w.heap.size wz p s2 x s2 (fun k => b5 ≤ k ∧ k < hz)) ∧ Aside0 (FI wz b5 (.slice (some ae) n c5) n) ∧ Aside0 (wz.heap.size = hz) ∧ Aside0 (wz.cell? ⟨(ae.add (j * 4)).block, (ae.add (j * 4)).off + 3, none⟩ = some (.slice Au m du))) (fun v _ => m - (intOf v).toNat)
                        case atStart => exact ⟨0, by omega, rfl, HBY, HTY, HIY, HZY, HK9⟩
                        case round =>
                          obtain ⟨wz, hwz⟩ : ∃ wz, wz = wr := ⟨_, rfl⟩
                          subst hwz
                          obtain ⟨z, hz1, rfl, HBQ, HTQ, HIQ, HZQ, HKQ⟩ := hrel
                          have kq := HKQ.out
                          by_cases hzl : z < m
                          · have hzl' : (z : Int) < (m : Int) := by omega
                            obtain ⟨ae', Au', m', du', ea, _, kq', hst⟩ := HIQ.out.at hjl
                            injection ea with ea
                            subst ea
                            rw [kq] at kq'
                            injection kq' with kq'
                            injection kq' with ka km kd'
                            subst ka km kd'
                            obtain ⟨g, off, y, rfl, hg, hgl, hc, hfz, hfi, hkk⟩ := hst z hzl
                            have HFI2 := Aside0.mk hfi
                            have HKK2 := Aside0.mk hkk
                            have HSZ2 : Aside0 ((wz.setCell ⟨g, off + z, none⟩ (.int .u8 9)).heap.size = hz) := ⟨by rw [← HZQ.out]; simp [World.setCell]⟩
                            have HTX := Aside0.mk (HTQ.out.poke (W' := wz.setCell ⟨g, off + z, none⟩ (.int .u8 9)) (by simp [World.setCell]) (fun k hk _ => Below.heap_setCell wz ⟨g, off + z, none⟩ _ k (fun e => hk ⟨e ▸ hg, by rw [e, ← HZQ.out]; exact hgl⟩)))
                            have HBX := Aside0.mk (HBQ.out.setCell (p := ⟨g, off + z, none⟩) (Nat.le_trans HWB.out hg) (.int .u8 9))
                            clear hst hfi hkk hg hgl
                            go_wp2_with fail
                            exact ⟨⟨z + 1, by omega, by go_num, HBX, HTX, HFI2, HSZ2, HKK2⟩, by simp [intOf]; omega⟩
                          · have hzl' : ¬ (z : Int) < (m : Int) := by omega
                            clear hzl
                            go_wp2_with fail
                            exact ⟨⟨j + 1, by omega, by go_num, HBQ, HTQ, HIQ, HZQ⟩, by simp [intOf]; omega⟩
                      · have hjl' : ¬ (j : Int) < (n : Int) := by omega
                        clear hjl
                        go_wp2_with fail
                        exact ⟨⟨i + 1, s2, by omega, by omega, by go_num, HBY, ⟨HTY.out.below (Below.refl _ _) (fun _ h => h.elim) (fun _ h => h.elim)⟩⟩, by simp [intOf]; omega⟩
      · rcases hend with rfl | ⟨hlt, rfl⟩
        all_goals
          go_wp2_with fail
          have HBA := HB.out
          refine (ealive_calls _).mono ?_
          rintro e w9 ⟨rfl, hb9⟩
          have HB9 := Aside0.mk (HBA.trans (hb9.mono HBA.size))
          clear hb9 HBA
          go_wp2_with fail
          go_ret
          exact ⟨rfl, HB9.out⟩
end Go.Proofs.Ytcpkfkcemaihfaa.Oct
