import Derived.Test.YtilogpjbdemceaaPathQ
/- PathLives. -/
namespace Go.Proofs.Ytilogpjbdemceaa.Oct
open Go.RowKit Go.Proofs.YtilogpjbdemceaaW.PrintWords Go.Proofs.Ytilogpjbdemceaa.M
set_option linter.unusedVariables false
set_option linter.unusedSimpArgs false
theorem op5 {W : World} {b : Nat} {x y z u v : Value} {t : TypeId} (h : W.heap[b]? = some (.cells #[x, y, z, u, v] t (0, 0))) :
    W.cell? ⟨b, 0, none⟩ = some x ∧ W.cell? ⟨b, 1, none⟩ = some y ∧ W.cell? ⟨b, 2, none⟩ = some z ∧ W.cell? ⟨b, 3, none⟩ = some u ∧ W.cell? ⟨b, 4, none⟩ = some v := by
  refine ⟨?_, ?_, ?_, ?_, ?_⟩ <;> simp [World.cell?, h]
theorem rclear_close {w1 : World} {x : Nat} {t : Bag} {G : Nat → Prop} (h : RPathAt w1 x t G) : RPathAt (w1.setCell ⟨x, 0, none⟩ (.slice none 0 0)) x [] G := by
  obtain ⟨v, vs, hh, _, _, hp, _⟩ := h
  exact ⟨_, [], heap_set _ hh, OwnAt.nil _ _ _ _, ⟨rfl, fun j u l h => by simp at h, List.Pairwise.nil⟩, hp, fun k e => (nomatch e), fun u h => (nomatch h), Bag.ok_nil⟩
/-- bytes of one's own above a mark, and one of them stored -/
theorem own_put {W : World} {top m c : Nat} {A : Option Addr} (h : ∃ zs : List Int, zs.length = m ∧ Bytes zs ∧ OB W top (.slice A m c) zs) {k : Nat} (hk : k < m) :
    ∃ g z, A = some ⟨g, 0, none⟩ ∧ top ≤ g ∧ 0 ≤ z ∧ z < 256 ∧ W.cell? ⟨g, k, none⟩ = some (.int .u8 z) ∧ W.frozen? ⟨g, k, none⟩ = false ∧ ∀ x, Byte x → ∃ zs : List Int, zs.length = m ∧ Bytes zs ∧ OB (W.setCell ⟨g, k, none⟩ (.int .u8 x)) top (.slice A m c) zs := by
  obtain ⟨zs, hl, hb, ho⟩ := h
  have ho' : W.ownsRow top 5 1 (.slice A m c) m (nums .u8 zs) := by unfold OB at ho; rwa [hl] at ho
  rcases ho'.2 with ⟨_, h0⟩ | ⟨g, cap, cur, hv, hg, _⟩
  · omega
  injection hv with hA _ hcap
  subst hA
  obtain ⟨hc, hf⟩ := own_at ho' (k : Int) (by omega) (by omega)
  rw [Int.toNat_natCast] at hc hf
  obtain ⟨A', c', e, hr⟩ := ho.reads
  injection e with e1 e2 e3
  obtain ⟨ad, e, hz⟩ := C_byte hr (k := k) (by omega)
  rw [← e1] at e
  injection e with e
  subst e
  rw [Addr.add_lit, Nat.zero_add] at hz
  refine ⟨g, zs.getD k 0, rfl, hg, (hb.getD k).1, (hb.getD k).2, hz, hf, fun x hx => ⟨zs.set k x, by simp [hl], fun y hy => ?_, ?_⟩⟩
  · rcases List.mem_or_eq_of_mem_set hy with h | h
    · exact hb y h
    · rw [h]; exact hx
  · have hp := own_store ho' (k : Int) x
    rw [Int.toNat_natCast] at hp
    have := hp.1
    unfold OB
    rw [List.length_set, hl]
    exact this
theorem xor_ff {z : Int} (h0 : 0 ≤ z) (h : z < 256) : ∃ y, Go.bits .xor .u8 z 255 = y ∧ Byte y := by
  refine ⟨_, u8_xor h0 h (by decide) (by decide), by omega, ?_⟩
  have := xor_byte (a := z.toNat) (b := (255 : Int).toNat) (by omega) (by decide)
  omega
set_option maxRecDepth 200000 in
set_option maxHeartbeats 16000000 in
theorem plives_calls (w : World) (l : List POp) (A : Option Addr) (c : Nat) (h : popK.C w A l.length l) (ho : ∀ o ∈ l, POp.ok o) :
    Calls Try.prog 6 #[.slice A l.length c] w (Yes w) := by
  have HL := Aside0.mk h
  have HOK := Aside0.mk ho
  have hll : l.length ≤ 9223372036854775807 := h.2.1
  clear h ho
  go_enter Try.func6, Try.ntmps6
  go_wp2_with fail
  refine (pnew_at _).mono ?_
  rintro e w1 ⟨rfl, ht, hb⟩
  obtain ⟨p, hp⟩ : ∃ p, p = w.heap.size := ⟨_, rfl⟩
  obtain ⟨x, hx⟩ : ∃ x, x = w1.heap.size := ⟨_, rfl⟩
  obtain ⟨w2, hw2⟩ : ∃ w2, w2 = w1.alloc (.cells #[.slice none 0 0] 49) := ⟨_, rfl⟩
  have hb2 : Below w1.heap.size w1 w2 := by rw [hw2]; exact below_alloc (Below.refl _ _) _
  have hpx : p < x := by have := ht.is.1; omega
  have hxl : x < w2.heap.size := by rw [hw2, hx]; simp
  have HP2 : Aside0 (TwoP w.heap.size w2 p x [] [] (fun _ => False)) := ⟨fun k => k = p, fun k => k = x, by rw [hp]; exact ht.below hb2, ⟨_, [], by rw [hw2, hx]; exact heap_alloc_new w1 _, OwnAt.nil _ _ _ _, ⟨rfl, fun j u l h => by simp at h, List.Pairwise.nil⟩, rfl, fun k h => (nomatch h), fun u h => (nomatch h), Bag.ok_nil⟩, fun k h h' => by omega, fun k h => ⟨by omega, by omega, id⟩, fun k h => ⟨by omega, by omega, id⟩⟩
  have HB2 := Aside0.mk (hb.trans (hb2.mono hb.size))
  rw [← hp]
  have HX := Aside0.mk hx
  have HW2 := Aside0.mk hw2
  clear ht hb hb2 hpx hxl hp hx hw2
  go_wp2_with fail
  rw [← HW2.out, ← HX.out]
  go_loopw [5] (fun v5 wr => ∃ (i : Nat) (s : Bag), i ≤ l.length ∧ i ≤ 300 ∧ v5 = .int .i64 i ∧ Aside0 (Below w.heap.size w wr) ∧ Aside0 (TwoP w.heap.size wr p x s s (fun _ => False))) (fun v _ => l.length - (intOf v).toNat)
  case atStart => exact ⟨0, _, by omega, by omega, rfl, HB2, HP2⟩
  case round =>
    obtain ⟨i, s, hi, hi3, rfl, HB, HT⟩ := hrel
    have hcase : (i < l.length ∧ i < 300) ∨ i = l.length ∨ (i < l.length ∧ i = 300) := by omega
    rcases hcase with ⟨hlt, h3⟩ | hend
    · obtain ⟨ad, B, c1, rfl, k0, k1, k2, k3, k4, hcap, hrd⟩ := pop_at (Kd.C_below HL.out HB.out) hlt (0, 0, 0, [], 0)
      have HM : Aside0 (l.getD i (0, 0, 0, [], 0) ∈ l) := ⟨by rw [List.getD_eq_getElem?_getD, List.getElem?_eq_getElem hlt]; exact List.getElem_mem hlt⟩
      have hrd := (pop_at HL.out hlt (0, 0, 0, [], 0))
      obtain ⟨ad', B', c1', e', k0', k1', k2', k3', k4', hcap', hrd⟩ := hrd
      cases e'
      have hbb : B = B' ∧ c1 = c1' := by
        have := (HB.out.cell (World.block_lt_of_cell? _ _ k3')).trans k3'
        rw [k3] at this
        injection this with this
        injection this with e1 e2 e3
        exact ⟨e1, e3⟩
      obtain ⟨rfl, rfl⟩ := hbb
      clear k0' k1' k2' k3' k4' hcap'
      have HOI := Aside0.mk (HOK.out _ HM.out)
      obtain ⟨o, ho⟩ : ∃ o, o = l.getD i (0, 0, 0, [], 0) := ⟨_, rfl⟩
      rw [← ho] at k0 k1 k2 k3 k4 hcap HOI hrd
      clear ho HM
      obtain ⟨kd, ii, aa, b, yy⟩ := o
      dsimp only at k0 k1 k2 k3 k4 hcap hrd
      have hbl : b.length ≤ 9223372036854775807 := hrd.2.1
      have HRD := Aside0.mk hrd
      clear hrd hcap
      by_cases h5 : (1000 : Int) < (b.length : Int)
      · go_wp2_with fail
        refine (palive_calls _).mono ?_
        rintro e w3 ⟨rfl, hb3⟩
        have HB3 := Aside0.mk ((below_alloc HB.out _).trans (hb3.mono (below_alloc HB.out _).size))
        clear hb3
        go_wp2_with fail
        go_ret
        exact ⟨rfl, HB3.out⟩
      · have hk : kd = 0 ∨ kd = 1 ∨ kd = 2 ∨ kd = 3 ∨ kd = 4 ∨ (kd ≠ 0 ∧ kd ≠ 1 ∧ kd ≠ 2 ∧ kd ≠ 3 ∧ kd ≠ 4) := by omega
        have HS0 : Aside0 (w.heap.size ≤ wr.heap.size) := ⟨HB.out.size⟩
        have HLB : Aside0 (b.length ≤ 1000) := ⟨by omega⟩
        have HBY := Aside0.mk HOI.out.2.2.2.1
        rcases hk with hk | hk | hk | hk | hk | ⟨e0, e1, e2, e3, e4⟩
        · have b0 : (kd == 0) = true := beq_iff_eq.2 hk
          clear hk
          go_wp2_with fail
          obtain ⟨q, hq⟩ : ∃ q, q = wr.heap.size := ⟨_, rfl⟩
          obtain ⟨w0, hw0⟩ : ∃ w0, w0 = wr.alloc (.cells #[.int .i64 kd, .int .i64 ii, .int .i64 aa, .slice B b.length c1, .int .u8 yy] 28) := ⟨_, rfl⟩
          have hb0 : Below wr.heap.size wr w0 := by rw [hw0]; exact below_alloc (Below.refl _ _) _
          have hh0 : w0.heap[q]? = some (.cells #[.int .i64 kd, .int .i64 ii, .int .i64 aa, .slice B b.length c1, .int .u8 yy] 28 (0, 0)) := by rw [hw0, hq]; exact heap_alloc_new wr _
          rw [← hw0, ← hq]
          have HQ := Aside0.mk hq
          have HB0 := Aside0.mk hb0
          have HH0 := Aside0.mk hh0
          have HBW := Aside0.mk (HB.out.trans (hb0.mono HS0.out))
          have HQL : Aside0 (q < w0.heap.size) := ⟨(Array.getElem?_eq_some_iff.1 hh0).1⟩
          clear hw0 hb0 hh0 hq k0 k1 k2 k3 k4
          refine (copy_calls _ B c1 b (Kd.C_below HRD.out HBW.out) (by have := HLB.out; omega)).mono ?_
          rintro e w3 ⟨v7, rfl, ho7, hb7⟩
          obtain ⟨A7, c7, rfl, hr7⟩ := ho7.reads
          have hb3 := HB0.out.trans (hb7.mono HB0.out.size)
          obtain ⟨top, htop⟩ : ∃ top, top = w0.heap.size := ⟨_, rfl⟩
          have HTOP : Aside0 (w.heap.size ≤ top) := ⟨by rw [htop]; exact HBW.out.size⟩
          obtain ⟨ex, hex⟩ : ∃ ex : Nat → Prop, ex = fun k => k = q ∨ (Value.slice A7 b.length c7).ownBlock = some k := ⟨_, rfl⟩
          have HEQ : Aside0 (ex q) := ⟨by rw [hex]; exact .inl rfl⟩
          have HEA : Aside0 (∀ k, (Value.slice A7 b.length c7).ownBlock = some k → ex k) := ⟨fun k h => by rw [hex]; exact .inr h⟩
          have HEX : Aside0 (∀ k, ex k → k < w3.heap.size) := ⟨fun k h => by
            rw [hex] at h
            rcases h with h | h
            · rw [h]; exact Nat.lt_of_lt_of_le HQL.out hb7.size
            · exact own_lt ho7 k h⟩
          have HP3 : Aside0 (TwoP w.heap.size w3 p x s s ex) := ⟨HT.out.ex hb3 (fun k h => by
            rw [hex] at h
            have hq := HQ.out
            rcases h with h | h
            · rw [h, hq]; exact Nat.le_refl _
            · exact Nat.le_trans HB0.out.size (own_base ho7 k h))⟩
          rw [← htop] at ho7
          have HO3 := Aside0.mk ho7
          have HH3 := Aside0.mk (blk_keep HH0.out hb7)
          have HB3 := Aside0.mk (HBW.out.trans (hb7.mono HBW.out.size))
          have hbd3 : Below w3.heap.size w3 w3.drew := below_drew (Below.refl _ _)
          have HPD : Aside0 (TwoP w.heap.size w3.drew p x s s ex) := ⟨HP3.out.below hbd3⟩
          have HOD : Aside0 (OB w3.drew top (.slice A7 b.length c7) b) := ⟨HO3.out.below hbd3⟩
          have HHD : Aside0 (w3.drew.heap[q]? = some (.cells #[.int .i64 kd, .int .i64 ii, .int .i64 aa, .slice B b.length c1, .int .u8 yy] 28 (0, 0))) := ⟨HH3.out⟩
          have HBDD : Aside0 (Below w.heap.size w w3.drew) := ⟨below_drew HB3.out⟩
          have HXD : Aside0 (∀ k, ex k → k < w3.drew.heap.size) := ⟨HEX.out⟩
          obtain ⟨s2, hs2⟩ : ∃ s2, s2 = (sendB s b).1 := ⟨_, rfl⟩
          obtain ⟨er, her⟩ : ∃ er, er = (sendB s b).2 := ⟨_, rfl⟩
          have HC1 : Aside0 (∀ W, Below w.heap.size w W → TwoP w.heap.size W p x s s ex → OB W top (.slice A7 b.length c7) b → W.heap[q]? = some (.cells #[.int .i64 kd, .int .i64 ii, .int .i64 aa, .slice B b.length c1, .int .u8 yy] 28 (0, 0)) → (∀ k, ex k → k < W.heap.size) → Calls Try.prog 15 #[.pointer (some ⟨p, 0, none⟩), .slice A7 b.length c7] W (fun e W' => e = .returned (.int .i64 er) ∧ TwoP w.heap.size W' p x s2 s ex ∧ OB W' top (.slice A7 b.length c7) b ∧ W'.heap[q]? = some (.cells #[.int .i64 kd, .int .i64 ii, .int .i64 aa, .slice B b.length c1, .int .u8 yy] 28 (0, 0)) ∧ (∀ k, ex k → k < W'.heap.size) ∧ Below w.heap.size w W')) := ⟨fun W hW hp ho hh hx => by
            have hC : Kd.C (Kd.int .u8) W A7 b.length b := by
              obtain ⟨A', c', e, hr⟩ := ho.reads
              injection e with e1 e2 e3
              rw [e1]; exact hr
            refine (hp.path hx hW.size (fun F hF => psend_calls W p s F A7 c7 b hF hC HBY.out)).mono ?_
            rintro e W' ⟨rfl, hp', hk'⟩
            rw [← hs2] at hp'
            exact ⟨by rw [her], hp', own_move ho (fun k e => hk'.block k (HEA.out k e) (own_lt ho k e)), (hk'.block q HEQ.out (hx q HEQ.out)).trans hh, fun k h => Nat.lt_of_lt_of_le (hx k h) hk'.below.size, hW.trans hk'.below⟩⟩
          have HC2 : Aside0 (∀ W, Below w.heap.size w W → TwoP w.heap.size W p x s2 s ex → OB W top (.slice A7 b.length c7) b → W.heap[q]? = some (.cells #[.int .i64 kd, .int .i64 ii, .int .i64 aa, .slice B b.length c1, .int .u8 yy] 28 (0, 0)) → (∀ k, ex k → k < W.heap.size) → Calls Try.prog 27 #[.pointer (some ⟨x, 0, none⟩), .slice B b.length c1] W (fun e W' => e = .returned (.int .i64 er) ∧ TwoP w.heap.size W' p x s2 s2 ex ∧ OB W' top (.slice A7 b.length c7) b ∧ W'.heap[q]? = some (.cells #[.int .i64 kd, .int .i64 ii, .int .i64 aa, .slice B b.length c1, .int .u8 yy] 28 (0, 0)) ∧ (∀ k, ex k → k < W'.heap.size) ∧ Below w.heap.size w W')) := ⟨fun W hW hp ho hh hx => by
            refine (hp.ref hx hW.size (fun F hF => rsend_calls W x s F B c1 b hF (Kd.C_below HRD.out hW) HBY.out)).mono ?_
            rintro e W' ⟨rfl, hp', hk'⟩
            rw [← hs2] at hp'
            exact ⟨by rw [her], hp', own_move ho (fun k e => hk'.block k (HEA.out k e) (own_lt ho k e)), (hk'.block q HEQ.out (hx q HEQ.out)).trans hh, fun k h => Nat.lt_of_lt_of_le (hx k h) hk'.below.size, hW.trans hk'.below⟩⟩
          have HCQ : Aside0 (∀ W : World, W.heap[q]? = some (.cells #[.int .i64 kd, .int .i64 ii, .int .i64 aa, .slice B b.length c1, .int .u8 yy] 28 (0, 0)) → W.cell? ⟨q, 3, none⟩ = some (.slice B b.length c1)) := ⟨fun W h => (op5 h).2.2.2.1⟩
          have hx3 := HCQ.out _ HH3.out
          clear hs2 her hb7 hr7 hb3 ho7 htop hex hbd3
          go_wp2_with fail
          go_region_held_law (fun W => W.cell? ⟨q, 3, none⟩ = some (.slice B b.length c1)) (exact HCQ.out _ (Aside0.out (by assumption)))
            (first
             | (go_at_call 15; refine (HC1.out _ (Aside0.out (by assumption)) (Aside0.out (by assumption)) (Aside0.out (by assumption)) (Aside0.out (by assumption)) (Aside0.out (by assumption))).mono ?_; rintro e wa ⟨rfl, hpa, hoa, hha, hxa, hba⟩; have HPa := Aside0.mk hpa; have HOa := Aside0.mk hoa; have HHa := Aside0.mk hha; have HXa := Aside0.mk hxa; have HBa := Aside0.mk hba; clear hpa hoa hha hxa hba)
             | (go_at_call 27; refine (HC2.out _ (Aside0.out (by assumption)) (Aside0.out (by assumption)) (Aside0.out (by assumption)) (Aside0.out (by assumption)) (Aside0.out (by assumption))).mono ?_; rintro e wb ⟨rfl, hpb, hob, hhb, hxb, hbb⟩; have HHb := Aside0.mk hhb; have HPb := Aside0.mk hpb; have HOb : Aside0 (∃ zs : List Int, zs.length = b.length ∧ Bytes zs ∧ OB wb top (.slice A7 b.length c7) zs) := ⟨_, rfl, HBY.out, hob⟩; have HBb := Aside0.mk hbb; clear hpb hob hhb hxb hbb))
          all_goals
            obtain ⟨m, hm⟩ : ∃ m, m = b.length := ⟨_, rfl⟩
            have hbl2 : m ≤ 1000 := by rw [hm]; exact HLB.out
            rw [← hm] at HOb
            have HEA' : Aside0 (∀ k, (Value.slice A7 m c7).ownBlock = some k → ex k) := ⟨by rw [hm]; exact HEA.out⟩
            rw [← hm]
            clear HC1 HC2 HEA hm hx3
            go_wp2_with fail
            go_loopw [10] (fun v10 wE => ∃ k : Nat, k ≤ m ∧ v10 = .int .i64 k ∧ Aside0 (Below w.heap.size w wE) ∧ Aside0 (TwoP w.heap.size wE p x s2 s2 ex) ∧ Aside0 (∃ zs : List Int, zs.length = m ∧ Bytes zs ∧ OB wE top (.slice A7 m c7) zs)) (fun v _ => m - (intOf v).toNat)
            case atStart => exact ⟨0, by omega, rfl, HBb, HPb, HOb⟩
            case round =>
              obtain ⟨wE, hwE⟩ : ∃ wE, wE = wr := ⟨_, rfl⟩
              subst hwE
              obtain ⟨k, hk, rfl, HBE, HPE, HVE⟩ := hrel
              by_cases hlt2 : k < m
              · obtain ⟨g, z, rfl, hg, hz0, hz1, hc, hf, hset⟩ := own_put HVE.out hlt2
                obtain ⟨y, hy, hyb⟩ := xor_ff hz0 hz1
                have HX := Aside0.mk (hset y hyb)
                have HPX := Aside0.mk (HPE.out.step (W' := wE.setCell ⟨g, k, none⟩ (.int .u8 y)) (by simp [World.setCell]) (fun k' hn _ => Below.heap_setCell wE ⟨g, k, none⟩ _ k' (fun e => hn (e ▸ HEA'.out g rfl))))
                have HBX := Aside0.mk (HBE.out.setCell (p := ⟨g, k, none⟩) (Nat.le_trans HTOP.out hg) (.int .u8 y))
                have hlt3 : (k : Int) < (m : Int) := by omega
                clear hset hg hyb hz0 hz1
                go_wp2_with fail
                exact ⟨⟨k + 1, by omega, by go_num, HBX, HPX, HX⟩, by simp [intOf]; omega⟩
              · have hlt3 : ¬ (k : Int) < (m : Int) := by omega
                clear hlt2
                go_wp2_with fail
                obtain ⟨F, G, a1, a2, a3, a4, a5⟩ := HPE.out
                obtain ⟨B5, d5, ec, htr⟩ := a2.tr
                have hl2 : s2.length ≤ 256 := a1.is.2.2.1
                obtain ⟨n2, hn2⟩ : ∃ n2, n2 = s2.length := ⟨_, rfl⟩
                rw [← hn2] at ec
                have HEC : Aside0 (∀ W, Below wE.heap.size wE W → W.cell? ⟨x, 0, none⟩ = some (.slice B5 n2 d5)) := ⟨fun W hW => (hW.cell (World.block_lt_of_cell? _ _ ec)).trans ec⟩
                have HAL : Aside0 (∀ W, Below wE.heap.size wE W → Calls Try.prog 19 #[.pointer (some ⟨p, 0, none⟩)] W (fun e W' => ∃ A c, e = .returned (.slice A n2 c) ∧ TR W' A s2 ∧ Below wE.heap.size wE W')) := ⟨fun W hW => by
                  refine (pall_calls W p s2 F (a1.below hW)).mono ?_
                  rintro e W' ⟨A, c, rfl, hx, hb⟩
                  exact ⟨A, c, by rw [hn2], hx.tr, hW.trans (hb.mono hW.size)⟩⟩
                have HSL : Aside0 (∀ W A c, Below wE.heap.size wE W → TR W A s2 → Calls Try.prog 33 #[.slice A n2 c, .slice B5 n2 d5] W (fun e W' => e = .returned (.bool true) ∧ Below wE.heap.size wE W')) := ⟨fun W A c hW hT => by
                  rw [hn2]
                  refine (slists_calls W s2 A B5 c d5 (by omega) hT (htr.below hW)).mono ?_
                  rintro e W' ⟨rfl, hb⟩
                  exact ⟨rfl, hW.trans (hb.mono hW.size)⟩⟩
                have hee : (er != er) = false := bne_self_eq_false _
                have HBD : Aside0 (Below wE.heap.size wE wE.drew) := ⟨below_drew (Below.refl _ _)⟩
                clear a1 a2 a3 a4 a5 ec htr hn2 hl2
                go_wp2_with fail
                go_region_held_law (fun W => W.cell? ⟨x, 0, none⟩ = some (.slice B5 n2 d5)) (exact HEC.out _ (Aside0.out (by assumption)))
                  (first
                   | (go_at_call 19; refine (HAL.out _ (Aside0.out (by assumption))).mono ?_; rintro e wa ⟨A5, c5, rfl, hta, hba⟩; have HTa := Aside0.mk hta; have HBa := Aside0.mk hba; clear hta hba)
                   | (go_at_call 33; refine (HSL.out _ _ _ (Aside0.out (by assumption)) (Aside0.out (by assumption))).mono ?_; rintro e wb ⟨rfl, hbb⟩; have HBb := Aside0.mk hbb; clear hbb))
                all_goals
                  go_wp2_with fail
                  exact ⟨⟨i + 1, s2, by omega, by omega, by go_num, ⟨HBE.out.trans (HBb.out.mono HBE.out.size)⟩, ⟨(HPE.out.below HBb.out).none⟩⟩, by simp [intOf]; omega⟩
        · have b0 : (kd == 0) = false := beq_eq_false_iff_ne.2 (by omega)
          have b1 : (kd == 1) = true := beq_iff_eq.2 hk
          clear hk
          go_wp2_with fail
          obtain ⟨q, hq⟩ : ∃ q, q = wr.heap.size := ⟨_, rfl⟩
          obtain ⟨w0, hw0⟩ : ∃ w0, w0 = wr.alloc (.cells #[.int .i64 kd, .int .i64 ii, .int .i64 aa, .slice B b.length c1, .int .u8 yy] 28) := ⟨_, rfl⟩
          have hb0 : Below wr.heap.size wr w0 := by rw [hw0]; exact below_alloc (Below.refl _ _) _
          have hh0 : w0.heap[q]? = some (.cells #[.int .i64 kd, .int .i64 ii, .int .i64 aa, .slice B b.length c1, .int .u8 yy] 28 (0, 0)) := by rw [hw0, hq]; exact heap_alloc_new wr _
          rw [← hw0, ← hq]
          have HQ := Aside0.mk hq
          have HB0 := Aside0.mk hb0
          have HH0 := Aside0.mk hh0
          have HBW := Aside0.mk (HB.out.trans (hb0.mono HS0.out))
          have HQL : Aside0 (q < w0.heap.size) := ⟨(Array.getElem?_eq_some_iff.1 hh0).1⟩
          clear hw0 hb0 hh0 hq k0 k1 k2 k3 k4
          have HP0 : Aside0 (TwoP w.heap.size w0 p x s s (fun k => k = q)) := ⟨HT.out.ex HB0.out (fun k h => by rw [h, HQ.out]; exact Nat.le_refl _)⟩
          obtain ⟨F0, G0, a1, a2, a3, a4, a5⟩ := HP0.out
          obtain ⟨t0, t1, t2, t3, t4⟩ := op5 HH0.out
          refine (ptake_calls _ p s F0 ii a1).mono ?_
          rintro e w1 ⟨A1, d1, rfl, hq1, hf1, ht1, hk1⟩
          have hex : ∀ k, (fun k => k = q) k → k < w0.heap.size := fun k h => by rw [h]; exact HQL.out
          obtain ⟨⟨g1, g2, g3, g4, g5⟩, hkx1⟩ := TwoP.fst hex HBW.out.size a2 a3 a4 a5 ht1 hk1
          have HK1 := Aside0.mk (And.intro g1 (And.intro g2 (And.intro g3 (And.intro g4 g5))))
          have HB1 := Aside0.mk (HBW.out.trans hkx1.below)
          have HH1 := Aside0.mk ((hkx1.block q rfl HQL.out).trans HH0.out)
          have HQ1 := Aside0.mk hq1
          have HF1 : Aside0 (∀ k, (Value.slice A1 (takeB s ii).2.1.length d1).ownBlock = some k → New w0 F0 k ∧ k < w1.heap.size) := ⟨fun k e => ⟨.inl (hf1 k e), (hq1.block e).2⟩⟩
          have HQL1 : Aside0 (∀ k, (fun k => k = q) k → k < w1.heap.size) := ⟨fun k h => Nat.lt_of_lt_of_le (hex k h) hkx1.below.size⟩
          clear a1 a2 a3 a4 a5 hq1 hf1 ht1 hk1 g1 g2 g3 g4 g5 hkx1 hex t0 t1 t2 t3 t4
          obtain ⟨t0, t1, t2, t3, t4⟩ := op5 HH1.out
          go_wp2_with fail
          refine (rtake_calls _ x s _ ii HK1.out.2.1).mono ?_
          rintro e w2 ⟨A2, d2, rfl, hq2, hf2, ht2, hk2⟩
          obtain ⟨hp2, hkx2⟩ := TwoP.snd HQL1.out HB1.out.size HK1.out.1 HK1.out.2.2.1 HK1.out.2.2.2.1 HK1.out.2.2.2.2 ht2 hk2
          have HBE := Aside0.mk (HB1.out.trans hkx2.below)
          have hq12 := HQ1.out.move (W' := w2) (fun k e => hk2.block k (HQ1.out.block e).2 (fun hg => HK1.out.2.2.1 k (HF1.out k e) hg))
          have cv1 := hq12.string
          have cv2 := hq2.string
          obtain ⟨s2, hs2⟩ : ∃ s2, s2 = (takeB s ii).1 := ⟨_, rfl⟩
          obtain ⟨er, her⟩ : ∃ er, er = (takeB s ii).2.2 := ⟨_, rfl⟩
          obtain ⟨S, hS⟩ : ∃ S, S = strOfNums (takeB s ii).2.1 := ⟨_, rfl⟩
          obtain ⟨lt, hlt2⟩ : ∃ lt, lt = (takeB s ii).2.1.length := ⟨_, rfl⟩
          rw [← hs2] at hp2
          have HPE := Aside0.mk hp2
          rw [← hS, ← hlt2] at cv1 cv2
          rw [← her, ← hlt2]
          have n2 : (S.toList == S.toList) = true := beq_self_eq_true _
          obtain ⟨wE, hwE⟩ : ∃ wE, wE = w2 := ⟨_, rfl⟩
          clear hq2 hf2 ht2 hk2 hp2 hkx2 hq12 hs2 her hS hlt2 t0 t1 t2 t3 t4
          go_wp2_with fail
          rw [← hwE] at HPE HBE ⊢
          clear cv1 cv2 n2 hwE
          obtain ⟨F, G, a1, a2, a3, a4, a5⟩ := HPE.out
          obtain ⟨B5, d5, ec, htr⟩ := a2.tr
          have hl2 : s2.length ≤ 256 := a1.is.2.2.1
          obtain ⟨n2, hn2⟩ : ∃ n2, n2 = s2.length := ⟨_, rfl⟩
          rw [← hn2] at ec
          have HEC : Aside0 (∀ W, Below wE.heap.size wE W → W.cell? ⟨x, 0, none⟩ = some (.slice B5 n2 d5)) := ⟨fun W hW => (hW.cell (World.block_lt_of_cell? _ _ ec)).trans ec⟩
          have HAL : Aside0 (∀ W, Below wE.heap.size wE W → Calls Try.prog 19 #[.pointer (some ⟨p, 0, none⟩)] W (fun e W' => ∃ A c, e = .returned (.slice A n2 c) ∧ TR W' A s2 ∧ Below wE.heap.size wE W')) := ⟨fun W hW => by
            refine (pall_calls W p s2 F (a1.below hW)).mono ?_
            rintro e W' ⟨A, c, rfl, hx, hb⟩
            exact ⟨A, c, by rw [hn2], hx.tr, hW.trans (hb.mono hW.size)⟩⟩
          have HSL : Aside0 (∀ W A c, Below wE.heap.size wE W → TR W A s2 → Calls Try.prog 33 #[.slice A n2 c, .slice B5 n2 d5] W (fun e W' => e = .returned (.bool true) ∧ Below wE.heap.size wE W')) := ⟨fun W A c hW hT => by
            rw [hn2]
            refine (slists_calls W s2 A B5 c d5 (by omega) hT (htr.below hW)).mono ?_
            rintro e W' ⟨rfl, hb⟩
            exact ⟨rfl, hW.trans (hb.mono hW.size)⟩⟩
          have hee : (er != er) = false := bne_self_eq_false _
          have HBD : Aside0 (Below wE.heap.size wE wE.drew) := ⟨below_drew (Below.refl _ _)⟩
          clear a1 a2 a3 a4 a5 ec htr hn2 hl2
          go_wp2_with fail
          go_region_held_law (fun W => W.cell? ⟨x, 0, none⟩ = some (.slice B5 n2 d5)) (exact HEC.out _ (Aside0.out (by assumption)))
            (first
             | (go_at_call 19; refine (HAL.out _ (Aside0.out (by assumption))).mono ?_; rintro e wa ⟨A5, c5, rfl, hta, hba⟩; have HTa := Aside0.mk hta; have HBa := Aside0.mk hba; clear hta hba)
             | (go_at_call 33; refine (HSL.out _ _ _ (Aside0.out (by assumption)) (Aside0.out (by assumption))).mono ?_; rintro e wb ⟨rfl, hbb⟩; have HBb := Aside0.mk hbb; clear hbb))
          all_goals
            go_wp2_with fail
            exact ⟨⟨i + 1, s2, by omega, by omega, by go_num, ⟨HBE.out.trans (HBb.out.mono HBE.out.size)⟩, ⟨(HPE.out.below HBb.out).none⟩⟩, by simp [intOf]; omega⟩
        · have b0 : (kd == 0) = false := beq_eq_false_iff_ne.2 (by omega)
          have b1 : (kd == 1) = false := beq_eq_false_iff_ne.2 (by omega)
          have b2 : (kd == 2) = true := beq_iff_eq.2 hk
          clear hk
          go_wp2_with fail
          obtain ⟨q, hq⟩ : ∃ q, q = wr.heap.size := ⟨_, rfl⟩
          obtain ⟨w0, hw0⟩ : ∃ w0, w0 = wr.alloc (.cells #[.int .i64 kd, .int .i64 ii, .int .i64 aa, .slice B b.length c1, .int .u8 yy] 28) := ⟨_, rfl⟩
          have hb0 : Below wr.heap.size wr w0 := by rw [hw0]; exact below_alloc (Below.refl _ _) _
          have hh0 : w0.heap[q]? = some (.cells #[.int .i64 kd, .int .i64 ii, .int .i64 aa, .slice B b.length c1, .int .u8 yy] 28 (0, 0)) := by rw [hw0, hq]; exact heap_alloc_new wr _
          rw [← hw0, ← hq]
          have HQ := Aside0.mk hq
          have HB0 := Aside0.mk hb0
          have HH0 := Aside0.mk hh0
          have HBW := Aside0.mk (HB.out.trans (hb0.mono HS0.out))
          have HQL : Aside0 (q < w0.heap.size) := ⟨(Array.getElem?_eq_some_iff.1 hh0).1⟩
          clear hw0 hb0 hh0 hq k0 k1 k2 k3 k4
          have HP0 : Aside0 (TwoP w.heap.size w0 p x s s (fun k => k = q)) := ⟨HT.out.ex HB0.out (fun k h => by rw [h, HQ.out]; exact Nat.le_refl _)⟩
          obtain ⟨s2, hs2⟩ : ∃ s2, s2 = (dblB s ii).1 := ⟨_, rfl⟩
          obtain ⟨er, her⟩ : ∃ er, er = (dblB s ii).2 := ⟨_, rfl⟩
          have HC1 : Aside0 (∀ W, Below w.heap.size w W → TwoP w.heap.size W p x s s (fun k => k = q) → W.heap[q]? = some (.cells #[.int .i64 kd, .int .i64 ii, .int .i64 aa, .slice B b.length c1, .int .u8 yy] 28 (0, 0)) → Calls Try.prog 18 #[.pointer (some ⟨p, 0, none⟩), .int .i64 ii] W (fun e W' => e = .returned (.int .i64 er) ∧ TwoP w.heap.size W' p x s2 s (fun k => k = q) ∧ W'.heap[q]? = some (.cells #[.int .i64 kd, .int .i64 ii, .int .i64 aa, .slice B b.length c1, .int .u8 yy] 28 (0, 0)) ∧ Below w.heap.size w W')) := ⟨fun W hW hp hh => by
            have hql := (Array.getElem?_eq_some_iff.1 hh).1
            refine (hp.path (fun k h => by rw [h]; exact hql) hW.size (fun F hF => pdbl_calls W p s F ii hF)).mono ?_
            rintro e W' ⟨rfl, hp', hk'⟩
            rw [← hs2] at hp'
            exact ⟨by rw [her], hp', (hk'.block q rfl hql).trans hh, hW.trans hk'.below⟩⟩
          have HC2 : Aside0 (∀ W, Below w.heap.size w W → TwoP w.heap.size W p x s2 s (fun k => k = q) → W.heap[q]? = some (.cells #[.int .i64 kd, .int .i64 ii, .int .i64 aa, .slice B b.length c1, .int .u8 yy] 28 (0, 0)) → Calls Try.prog 29 #[.pointer (some ⟨x, 0, none⟩), .int .i64 ii] W (fun e W' => e = .returned (.int .i64 er) ∧ TwoP w.heap.size W' p x s2 s2 (fun k => k = q) ∧ W'.heap[q]? = some (.cells #[.int .i64 kd, .int .i64 ii, .int .i64 aa, .slice B b.length c1, .int .u8 yy] 28 (0, 0)) ∧ Below w.heap.size w W')) := ⟨fun W hW hp hh => by
            have hql := (Array.getElem?_eq_some_iff.1 hh).1
            refine (hp.ref (fun k h => by rw [h]; exact hql) hW.size (fun F hF => rdbl_calls W x s F ii hF)).mono ?_
            rintro e W' ⟨rfl, hp', hk'⟩
            rw [← hs2] at hp'
            exact ⟨by rw [her], hp', (hk'.block q rfl hql).trans hh, hW.trans hk'.below⟩⟩
          have HCQ : Aside0 (∀ W : World, W.heap[q]? = some (.cells #[.int .i64 kd, .int .i64 ii, .int .i64 aa, .slice B b.length c1, .int .u8 yy] 28 (0, 0)) → W.cell? ⟨q, 1, none⟩ = some (.int .i64 ii)) := ⟨fun W h => by
            obtain ⟨e0, e1, e2, e3, e4⟩ := op5 h
            exact e1⟩
          have HPD : Aside0 (TwoP w.heap.size w0.drew p x s s (fun k => k = q)) := ⟨HP0.out.below (below_drew (Below.refl _ _))⟩
          have HHD : Aside0 (w0.drew.heap[q]? = some (.cells #[.int .i64 kd, .int .i64 ii, .int .i64 aa, .slice B b.length c1, .int .u8 yy] 28 (0, 0))) := ⟨HH0.out⟩
          have HBDD : Aside0 (Below w.heap.size w w0.drew) := ⟨below_drew HBW.out⟩
          clear hs2 her
          go_wp2_with fail
          go_region_held_law (fun W => W.cell? ⟨q, 1, none⟩ = some (.int .i64 ii)) (exact HCQ.out _ (Aside0.out (by assumption)))
            (first
             | (go_at_call 18; refine (HC1.out _ (Aside0.out (by assumption)) (Aside0.out (by assumption)) (Aside0.out (by assumption))).mono ?_; rintro e wa ⟨rfl, hpa, hha, hba⟩; have HPa := Aside0.mk hpa; have HHa := Aside0.mk hha; have HBa := Aside0.mk hba; clear hpa hha hba)
             | (go_at_call 29; refine (HC2.out _ (Aside0.out (by assumption)) (Aside0.out (by assumption)) (Aside0.out (by assumption))).mono ?_; rintro e wE ⟨rfl, hpb, hhb, hbb⟩; have HPE := Aside0.mk hpb; have HHE := Aside0.mk hhb; have HBE := Aside0.mk hbb; clear hpb hhb hbb))
          all_goals
            go_wp2_with fail
            obtain ⟨F, G, a1, a2, a3, a4, a5⟩ := HPE.out
            obtain ⟨B5, d5, ec, htr⟩ := a2.tr
            have hl2 : s2.length ≤ 256 := a1.is.2.2.1
            obtain ⟨n2, hn2⟩ : ∃ n2, n2 = s2.length := ⟨_, rfl⟩
            rw [← hn2] at ec
            have HEC : Aside0 (∀ W, Below wE.heap.size wE W → W.cell? ⟨x, 0, none⟩ = some (.slice B5 n2 d5)) := ⟨fun W hW => (hW.cell (World.block_lt_of_cell? _ _ ec)).trans ec⟩
            have HAL : Aside0 (∀ W, Below wE.heap.size wE W → Calls Try.prog 19 #[.pointer (some ⟨p, 0, none⟩)] W (fun e W' => ∃ A c, e = .returned (.slice A n2 c) ∧ TR W' A s2 ∧ Below wE.heap.size wE W')) := ⟨fun W hW => by
              refine (pall_calls W p s2 F (a1.below hW)).mono ?_
              rintro e W' ⟨A, c, rfl, hx, hb⟩
              exact ⟨A, c, by rw [hn2], hx.tr, hW.trans (hb.mono hW.size)⟩⟩
            have HSL : Aside0 (∀ W A c, Below wE.heap.size wE W → TR W A s2 → Calls Try.prog 33 #[.slice A n2 c, .slice B5 n2 d5] W (fun e W' => e = .returned (.bool true) ∧ Below wE.heap.size wE W')) := ⟨fun W A c hW hT => by
              rw [hn2]
              refine (slists_calls W s2 A B5 c d5 (by omega) hT (htr.below hW)).mono ?_
              rintro e W' ⟨rfl, hb⟩
              exact ⟨rfl, hW.trans (hb.mono hW.size)⟩⟩
            have hee : (er != er) = false := bne_self_eq_false _
            have HBD : Aside0 (Below wE.heap.size wE wE.drew) := ⟨below_drew (Below.refl _ _)⟩
            clear a1 a2 a3 a4 a5 ec htr hn2 hl2
            go_wp2_with fail
            go_region_held_law (fun W => W.cell? ⟨x, 0, none⟩ = some (.slice B5 n2 d5)) (exact HEC.out _ (Aside0.out (by assumption)))
              (first
               | (go_at_call 19; refine (HAL.out _ (Aside0.out (by assumption))).mono ?_; rintro e wa ⟨A5, c5, rfl, hta, hba⟩; have HTa := Aside0.mk hta; have HBa := Aside0.mk hba; clear hta hba)
               | (go_at_call 33; refine (HSL.out _ _ _ (Aside0.out (by assumption)) (Aside0.out (by assumption))).mono ?_; rintro e wb ⟨rfl, hbb⟩; have HBb := Aside0.mk hbb; clear hbb))
            all_goals
              go_wp2_with fail
              exact ⟨⟨i + 1, s2, by omega, by omega, by go_num, ⟨HBE.out.trans (HBb.out.mono HBE.out.size)⟩, ⟨(HPE.out.below HBb.out).none⟩⟩, by simp [intOf]; omega⟩
        · have b0 : (kd == 0) = false := beq_eq_false_iff_ne.2 (by omega)
          have b1 : (kd == 1) = false := beq_eq_false_iff_ne.2 (by omega)
          have b2 : (kd == 2) = false := beq_eq_false_iff_ne.2 (by omega)
          have b3 : (kd == 3) = true := beq_iff_eq.2 hk
          clear hk
          go_wp2_with fail
          obtain ⟨q, hq⟩ : ∃ q, q = wr.heap.size := ⟨_, rfl⟩
          obtain ⟨w0, hw0⟩ : ∃ w0, w0 = wr.alloc (.cells #[.int .i64 kd, .int .i64 ii, .int .i64 aa, .slice B b.length c1, .int .u8 yy] 28) := ⟨_, rfl⟩
          have hb0 : Below wr.heap.size wr w0 := by rw [hw0]; exact below_alloc (Below.refl _ _) _
          have hh0 : w0.heap[q]? = some (.cells #[.int .i64 kd, .int .i64 ii, .int .i64 aa, .slice B b.length c1, .int .u8 yy] 28 (0, 0)) := by rw [hw0, hq]; exact heap_alloc_new wr _
          rw [← hw0, ← hq]
          have HQ := Aside0.mk hq
          have HB0 := Aside0.mk hb0
          have HH0 := Aside0.mk hh0
          have HBW := Aside0.mk (HB.out.trans (hb0.mono HS0.out))
          have HQL : Aside0 (q < w0.heap.size) := ⟨(Array.getElem?_eq_some_iff.1 hh0).1⟩
          clear hw0 hb0 hh0 hq k0 k1 k2 k3 k4
          have HP0 : Aside0 (TwoP w.heap.size w0 p x s s (fun k => k = q)) := ⟨HT.out.ex HB0.out (fun k h => by rw [h, HQ.out]; exact Nat.le_refl _)⟩
          obtain ⟨s2, hs2⟩ : ∃ s2, s2 = (turnB s ii aa yy).1 := ⟨_, rfl⟩
          obtain ⟨er, her⟩ : ∃ er, er = (turnB s ii aa yy).2 := ⟨_, rfl⟩
          have HC1 : Aside0 (∀ W, Below w.heap.size w W → TwoP w.heap.size W p x s s (fun k => k = q) → W.heap[q]? = some (.cells #[.int .i64 kd, .int .i64 ii, .int .i64 aa, .slice B b.length c1, .int .u8 yy] 28 (0, 0)) → Calls Try.prog 30 #[.pointer (some ⟨p, 0, none⟩), .int .i64 ii, .int .i64 aa, .int .u8 yy] W (fun e W' => e = .returned (.int .i64 er) ∧ TwoP w.heap.size W' p x s2 s (fun k => k = q) ∧ W'.heap[q]? = some (.cells #[.int .i64 kd, .int .i64 ii, .int .i64 aa, .slice B b.length c1, .int .u8 yy] 28 (0, 0)) ∧ Below w.heap.size w W')) := ⟨fun W hW hp hh => by
            have hql := (Array.getElem?_eq_some_iff.1 hh).1
            refine (hp.path (fun k h => by rw [h]; exact hql) hW.size (fun F hF => (pturn_calls W p s F ii aa yy hF HOI.out.2.2.2.2).mono (fun e W' h => h.1))).mono ?_
            rintro e W' ⟨rfl, hp', hk'⟩
            rw [← hs2] at hp'
            exact ⟨by rw [her], hp', (hk'.block q rfl hql).trans hh, hW.trans hk'.below⟩⟩
          have HC2 : Aside0 (∀ W, Below w.heap.size w W → TwoP w.heap.size W p x s2 s (fun k => k = q) → W.heap[q]? = some (.cells #[.int .i64 kd, .int .i64 ii, .int .i64 aa, .slice B b.length c1, .int .u8 yy] 28 (0, 0)) → Calls Try.prog 31 #[.pointer (some ⟨x, 0, none⟩), .int .i64 ii, .int .i64 aa, .int .u8 yy] W (fun e W' => e = .returned (.int .i64 er) ∧ TwoP w.heap.size W' p x s2 s2 (fun k => k = q) ∧ W'.heap[q]? = some (.cells #[.int .i64 kd, .int .i64 ii, .int .i64 aa, .slice B b.length c1, .int .u8 yy] 28 (0, 0)) ∧ Below w.heap.size w W')) := ⟨fun W hW hp hh => by
            have hql := (Array.getElem?_eq_some_iff.1 hh).1
            refine (hp.ref (fun k h => by rw [h]; exact hql) hW.size (fun F hF => rturn_calls W x s F ii aa yy hF HOI.out.2.2.2.2)).mono ?_
            rintro e W' ⟨rfl, hp', hk'⟩
            rw [← hs2] at hp'
            exact ⟨by rw [her], hp', (hk'.block q rfl hql).trans hh, hW.trans hk'.below⟩⟩
          have HCQ : Aside0 (∀ W : World, W.heap[q]? = some (.cells #[.int .i64 kd, .int .i64 ii, .int .i64 aa, .slice B b.length c1, .int .u8 yy] 28 (0, 0)) → W.cell? ⟨q, 1, none⟩ = some (.int .i64 ii) ∧ W.cell? ⟨q, 2, none⟩ = some (.int .i64 aa) ∧ W.cell? ⟨q, 4, none⟩ = some (.int .u8 yy)) := ⟨fun W h => by
            obtain ⟨e0, e1, e2, e3, e4⟩ := op5 h
            exact ⟨e1, e2, e4⟩⟩
          have HPD : Aside0 (TwoP w.heap.size w0.drew p x s s (fun k => k = q)) := ⟨HP0.out.below (below_drew (Below.refl _ _))⟩
          have HHD : Aside0 (w0.drew.heap[q]? = some (.cells #[.int .i64 kd, .int .i64 ii, .int .i64 aa, .slice B b.length c1, .int .u8 yy] 28 (0, 0))) := ⟨HH0.out⟩
          have HBDD : Aside0 (Below w.heap.size w w0.drew) := ⟨below_drew HBW.out⟩
          clear hs2 her
          go_wp2_with fail
          go_region_held_law (fun W => W.cell? ⟨q, 1, none⟩ = some (.int .i64 ii) ∧ W.cell? ⟨q, 2, none⟩ = some (.int .i64 aa) ∧ W.cell? ⟨q, 4, none⟩ = some (.int .u8 yy)) (exact HCQ.out _ (Aside0.out (by assumption)))
            (first
             | (go_at_call 30; refine (HC1.out _ (Aside0.out (by assumption)) (Aside0.out (by assumption)) (Aside0.out (by assumption))).mono ?_; rintro e wa ⟨rfl, hpa, hha, hba⟩; have HPa := Aside0.mk hpa; have HHa := Aside0.mk hha; have HBa := Aside0.mk hba; clear hpa hha hba)
             | (go_at_call 31; refine (HC2.out _ (Aside0.out (by assumption)) (Aside0.out (by assumption)) (Aside0.out (by assumption))).mono ?_; rintro e wE ⟨rfl, hpb, hhb, hbb⟩; have HPE := Aside0.mk hpb; have HHE := Aside0.mk hhb; have HBE := Aside0.mk hbb; clear hpb hhb hbb))
          all_goals
            go_wp2_with fail
            obtain ⟨F, G, a1, a2, a3, a4, a5⟩ := HPE.out
            obtain ⟨B5, d5, ec, htr⟩ := a2.tr
            have hl2 : s2.length ≤ 256 := a1.is.2.2.1
            obtain ⟨n2, hn2⟩ : ∃ n2, n2 = s2.length := ⟨_, rfl⟩
            rw [← hn2] at ec
            have HEC : Aside0 (∀ W, Below wE.heap.size wE W → W.cell? ⟨x, 0, none⟩ = some (.slice B5 n2 d5)) := ⟨fun W hW => (hW.cell (World.block_lt_of_cell? _ _ ec)).trans ec⟩
            have HAL : Aside0 (∀ W, Below wE.heap.size wE W → Calls Try.prog 19 #[.pointer (some ⟨p, 0, none⟩)] W (fun e W' => ∃ A c, e = .returned (.slice A n2 c) ∧ TR W' A s2 ∧ Below wE.heap.size wE W')) := ⟨fun W hW => by
              refine (pall_calls W p s2 F (a1.below hW)).mono ?_
              rintro e W' ⟨A, c, rfl, hx, hb⟩
              exact ⟨A, c, by rw [hn2], hx.tr, hW.trans (hb.mono hW.size)⟩⟩
            have HSL : Aside0 (∀ W A c, Below wE.heap.size wE W → TR W A s2 → Calls Try.prog 33 #[.slice A n2 c, .slice B5 n2 d5] W (fun e W' => e = .returned (.bool true) ∧ Below wE.heap.size wE W')) := ⟨fun W A c hW hT => by
              rw [hn2]
              refine (slists_calls W s2 A B5 c d5 (by omega) hT (htr.below hW)).mono ?_
              rintro e W' ⟨rfl, hb⟩
              exact ⟨rfl, hW.trans (hb.mono hW.size)⟩⟩
            have hee : (er != er) = false := bne_self_eq_false _
            have HBD : Aside0 (Below wE.heap.size wE wE.drew) := ⟨below_drew (Below.refl _ _)⟩
            clear a1 a2 a3 a4 a5 ec htr hn2 hl2
            go_wp2_with fail
            go_region_held_law (fun W => W.cell? ⟨x, 0, none⟩ = some (.slice B5 n2 d5)) (exact HEC.out _ (Aside0.out (by assumption)))
              (first
               | (go_at_call 19; refine (HAL.out _ (Aside0.out (by assumption))).mono ?_; rintro e wa ⟨A5, c5, rfl, hta, hba⟩; have HTa := Aside0.mk hta; have HBa := Aside0.mk hba; clear hta hba)
               | (go_at_call 33; refine (HSL.out _ _ _ (Aside0.out (by assumption)) (Aside0.out (by assumption))).mono ?_; rintro e wb ⟨rfl, hbb⟩; have HBb := Aside0.mk hbb; clear hbb))
            all_goals
              go_wp2_with fail
              exact ⟨⟨i + 1, s2, by omega, by omega, by go_num, ⟨HBE.out.trans (HBb.out.mono HBE.out.size)⟩, ⟨(HPE.out.below HBb.out).none⟩⟩, by simp [intOf]; omega⟩
        · have b0 : (kd == 0) = false := beq_eq_false_iff_ne.2 (by omega)
          have b1 : (kd == 1) = false := beq_eq_false_iff_ne.2 (by omega)
          have b2 : (kd == 2) = false := beq_eq_false_iff_ne.2 (by omega)
          have b3 : (kd == 3) = false := beq_eq_false_iff_ne.2 (by omega)
          have b4 : (kd == 4) = true := beq_iff_eq.2 hk
          clear hk
          go_wp2_with fail
          obtain ⟨q, hq⟩ : ∃ q, q = wr.heap.size := ⟨_, rfl⟩
          obtain ⟨w0, hw0⟩ : ∃ w0, w0 = wr.alloc (.cells #[.int .i64 kd, .int .i64 ii, .int .i64 aa, .slice B b.length c1, .int .u8 yy] 28) := ⟨_, rfl⟩
          have hb0 : Below wr.heap.size wr w0 := by rw [hw0]; exact below_alloc (Below.refl _ _) _
          have hh0 : w0.heap[q]? = some (.cells #[.int .i64 kd, .int .i64 ii, .int .i64 aa, .slice B b.length c1, .int .u8 yy] 28 (0, 0)) := by rw [hw0, hq]; exact heap_alloc_new wr _
          rw [← hw0, ← hq]
          have HQ := Aside0.mk hq
          have HB0 := Aside0.mk hb0
          have HH0 := Aside0.mk hh0
          have HBW := Aside0.mk (HB.out.trans (hb0.mono HS0.out))
          have HQL : Aside0 (q < w0.heap.size) := ⟨(Array.getElem?_eq_some_iff.1 hh0).1⟩
          clear hw0 hb0 hh0 hq k0 k1 k2 k3 k4
          have HP0 : Aside0 (TwoP w.heap.size w0 p x s s (fun k => k = q)) := ⟨HT.out.ex HB0.out (fun k h => by rw [h, HQ.out]; exact Nat.le_refl _)⟩
          obtain ⟨F0, G0, a1, a2, a3, a4, a5⟩ := HP0.out
          have hex : ∀ k, (fun k => k = q) k → k < w0.heap.size := fun k h => by rw [h]; exact HQL.out
          refine (pclear_calls _ p s F0 a1).mono ?_
          rintro e w1 ⟨rfl, ht1, hk1⟩
          obtain ⟨⟨g1, g2, g3, g4, g5⟩, hkx1⟩ := TwoP.fst hex HBW.out.size a2 a3 a4 a5 ht1 hk1
          have HB1 := Aside0.mk (HBW.out.trans hkx1.below)
          obtain ⟨B5, d5, _, hh5⟩ := g2.row
          obtain ⟨e5, f5⟩ := one_cell hh5
          have hcl := rclear_close g2
          have HBE : Aside0 (Below w.heap.size w (w1.setCell ⟨x, 0, none⟩ (.slice none 0 0))) := ⟨HB1.out.setCell (p := ⟨x, 0, none⟩) (g5 x g2.is.2.1).1 _⟩
          have hxp := g2.is.2.1
          have HPE : Aside0 (TwoP w.heap.size (w1.setCell ⟨x, 0, none⟩ (.slice none 0 0)) p x [] [] (fun k => k = q)) := ⟨_, _, g1.step (fun k hf hl => Below.heap_setCell w1 ⟨x, 0, none⟩ _ k (fun e => g3 k hf (e ▸ hxp))), hcl, g3, fun k hf => ⟨(g4 k hf).1, by simpa [World.setCell] using (g4 k hf).2.1, (g4 k hf).2.2⟩, fun k hg => ⟨(g5 k hg).1, by simpa [World.setCell] using (g5 k hg).2.1, (g5 k hg).2.2⟩⟩
          obtain ⟨s2, hs2⟩ : ∃ s2 : Bag, s2 = [] := ⟨_, rfl⟩
          rw [← hs2] at HPE
          obtain ⟨wE, hwE⟩ : ∃ wE, wE = w1.setCell ⟨x, 0, none⟩ (.slice none 0 0) := ⟨_, rfl⟩
          obtain ⟨er, her⟩ : ∃ er : Int, er = 0 := ⟨_, rfl⟩
          have hee0 : ((0 : Int) != 0) = false := by decide
          clear a1 a2 a3 a4 a5 ht1 hk1 g1 g2 g3 g4 g5 hkx1 hex hh5 hcl hs2 hxp
          go_wp2_with fail
          rw [← hwE] at HPE HBE ⊢
          clear e5 f5 hwE
          obtain ⟨F, G, a1, a2, a3, a4, a5⟩ := HPE.out
          obtain ⟨B5, d5, ec, htr⟩ := a2.tr
          have hl2 : s2.length ≤ 256 := a1.is.2.2.1
          obtain ⟨n2, hn2⟩ : ∃ n2, n2 = s2.length := ⟨_, rfl⟩
          rw [← hn2] at ec
          have HEC : Aside0 (∀ W, Below wE.heap.size wE W → W.cell? ⟨x, 0, none⟩ = some (.slice B5 n2 d5)) := ⟨fun W hW => (hW.cell (World.block_lt_of_cell? _ _ ec)).trans ec⟩
          have HAL : Aside0 (∀ W, Below wE.heap.size wE W → Calls Try.prog 19 #[.pointer (some ⟨p, 0, none⟩)] W (fun e W' => ∃ A c, e = .returned (.slice A n2 c) ∧ TR W' A s2 ∧ Below wE.heap.size wE W')) := ⟨fun W hW => by
            refine (pall_calls W p s2 F (a1.below hW)).mono ?_
            rintro e W' ⟨A, c, rfl, hx, hb⟩
            exact ⟨A, c, by rw [hn2], hx.tr, hW.trans (hb.mono hW.size)⟩⟩
          have HSL : Aside0 (∀ W A c, Below wE.heap.size wE W → TR W A s2 → Calls Try.prog 33 #[.slice A n2 c, .slice B5 n2 d5] W (fun e W' => e = .returned (.bool true) ∧ Below wE.heap.size wE W')) := ⟨fun W A c hW hT => by
            rw [hn2]
            refine (slists_calls W s2 A B5 c d5 (by omega) hT (htr.below hW)).mono ?_
            rintro e W' ⟨rfl, hb⟩
            exact ⟨rfl, hW.trans (hb.mono hW.size)⟩⟩
          have hee : ((0 : Int) != 0) = false := by decide
          have HBD : Aside0 (Below wE.heap.size wE wE.drew) := ⟨below_drew (Below.refl _ _)⟩
          clear a1 a2 a3 a4 a5 ec htr hn2 hl2
          go_wp2_with fail
          go_region_held_law (fun W => W.cell? ⟨x, 0, none⟩ = some (.slice B5 n2 d5)) (exact HEC.out _ (Aside0.out (by assumption)))
            (first
             | (go_at_call 19; refine (HAL.out _ (Aside0.out (by assumption))).mono ?_; rintro e wa ⟨A5, c5, rfl, hta, hba⟩; have HTa := Aside0.mk hta; have HBa := Aside0.mk hba; clear hta hba)
             | (go_at_call 33; refine (HSL.out _ _ _ (Aside0.out (by assumption)) (Aside0.out (by assumption))).mono ?_; rintro e wb ⟨rfl, hbb⟩; have HBb := Aside0.mk hbb; clear hbb))
          all_goals
            go_wp2_with fail
            exact ⟨⟨i + 1, s2, by omega, by omega, by go_num, ⟨HBE.out.trans (HBb.out.mono HBE.out.size)⟩, ⟨(HPE.out.below HBb.out).none⟩⟩, by simp [intOf]; omega⟩
        · have b0 : (kd == 0) = false := beq_eq_false_iff_ne.2 e0
          have b1 : (kd == 1) = false := beq_eq_false_iff_ne.2 e1
          have b2 : (kd == 2) = false := beq_eq_false_iff_ne.2 e2
          have b3 : (kd == 3) = false := beq_eq_false_iff_ne.2 e3
          have b4 : (kd == 4) = false := beq_eq_false_iff_ne.2 e4
          clear e0 e1 e2 e3 e4
          go_wp2_with fail
          obtain ⟨q, hq⟩ : ∃ q, q = wr.heap.size := ⟨_, rfl⟩
          obtain ⟨w0, hw0⟩ : ∃ w0, w0 = wr.alloc (.cells #[.int .i64 kd, .int .i64 ii, .int .i64 aa, .slice B b.length c1, .int .u8 yy] 28) := ⟨_, rfl⟩
          have hb0 : Below wr.heap.size wr w0 := by rw [hw0]; exact below_alloc (Below.refl _ _) _
          have hh0 : w0.heap[q]? = some (.cells #[.int .i64 kd, .int .i64 ii, .int .i64 aa, .slice B b.length c1, .int .u8 yy] 28 (0, 0)) := by rw [hw0, hq]; exact heap_alloc_new wr _
          rw [← hw0, ← hq]
          have HQ := Aside0.mk hq
          have HB0 := Aside0.mk hb0
          have HH0 := Aside0.mk hh0
          have HBW := Aside0.mk (HB.out.trans (hb0.mono HS0.out))
          have HQL : Aside0 (q < w0.heap.size) := ⟨(Array.getElem?_eq_some_iff.1 hh0).1⟩
          clear hw0 hb0 hh0 hq k0 k1 k2 k3 k4
          have HP0 : Aside0 (TwoP w.heap.size w0 p x s s (fun k => k = q)) := ⟨HT.out.ex HB0.out (fun k h => by rw [h, HQ.out]; exact Nat.le_refl _)⟩
          obtain ⟨wE, hwE⟩ : ∃ wE, wE = w0 := ⟨_, rfl⟩
          have HPE := HP0
          have HBE := HBW
          obtain ⟨s2, hs2⟩ : ∃ s2 : Bag, s2 = s := ⟨_, rfl⟩
          obtain ⟨er, her⟩ : ∃ er : Int, er = 0 := ⟨_, rfl⟩
          rw [← hs2, ← hwE] at HPE
          rw [← hwE] at HBE ⊢
          clear hs2 hwE
          obtain ⟨F, G, a1, a2, a3, a4, a5⟩ := HPE.out
          obtain ⟨B5, d5, ec, htr⟩ := a2.tr
          have hl2 : s2.length ≤ 256 := a1.is.2.2.1
          obtain ⟨n2, hn2⟩ : ∃ n2, n2 = s2.length := ⟨_, rfl⟩
          rw [← hn2] at ec
          have HEC : Aside0 (∀ W, Below wE.heap.size wE W → W.cell? ⟨x, 0, none⟩ = some (.slice B5 n2 d5)) := ⟨fun W hW => (hW.cell (World.block_lt_of_cell? _ _ ec)).trans ec⟩
          have HAL : Aside0 (∀ W, Below wE.heap.size wE W → Calls Try.prog 19 #[.pointer (some ⟨p, 0, none⟩)] W (fun e W' => ∃ A c, e = .returned (.slice A n2 c) ∧ TR W' A s2 ∧ Below wE.heap.size wE W')) := ⟨fun W hW => by
            refine (pall_calls W p s2 F (a1.below hW)).mono ?_
            rintro e W' ⟨A, c, rfl, hx, hb⟩
            exact ⟨A, c, by rw [hn2], hx.tr, hW.trans (hb.mono hW.size)⟩⟩
          have HSL : Aside0 (∀ W A c, Below wE.heap.size wE W → TR W A s2 → Calls Try.prog 33 #[.slice A n2 c, .slice B5 n2 d5] W (fun e W' => e = .returned (.bool true) ∧ Below wE.heap.size wE W')) := ⟨fun W A c hW hT => by
            rw [hn2]
            refine (slists_calls W s2 A B5 c d5 (by omega) hT (htr.below hW)).mono ?_
            rintro e W' ⟨rfl, hb⟩
            exact ⟨rfl, hW.trans (hb.mono hW.size)⟩⟩
          have hee : ((0 : Int) != 0) = false := by decide
          have HBD : Aside0 (Below wE.heap.size wE wE.drew) := ⟨below_drew (Below.refl _ _)⟩
          clear a1 a2 a3 a4 a5 ec htr hn2 hl2
          go_wp2_with fail
          go_region_held_law (fun W => W.cell? ⟨x, 0, none⟩ = some (.slice B5 n2 d5)) (exact HEC.out _ (Aside0.out (by assumption)))
            (first
             | (go_at_call 19; refine (HAL.out _ (Aside0.out (by assumption))).mono ?_; rintro e wa ⟨A5, c5, rfl, hta, hba⟩; have HTa := Aside0.mk hta; have HBa := Aside0.mk hba; clear hta hba)
             | (go_at_call 33; refine (HSL.out _ _ _ (Aside0.out (by assumption)) (Aside0.out (by assumption))).mono ?_; rintro e wb ⟨rfl, hbb⟩; have HBb := Aside0.mk hbb; clear hbb))
          all_goals
            go_wp2_with fail
            exact ⟨⟨i + 1, s2, by omega, by omega, by go_num, ⟨HBE.out.trans (HBb.out.mono HBE.out.size)⟩, ⟨(HPE.out.below HBb.out).none⟩⟩, by simp [intOf]; omega⟩
    · rcases hend with rfl | ⟨hlt, rfl⟩
      all_goals
        go_wp2_with fail
        refine (palive_calls _).mono ?_
        rintro e w3 ⟨rfl, hb3⟩
        have HB3 := Aside0.mk (HB.out.trans (hb3.mono HB.out.size))
        clear hb3
        go_wp2_with fail
        go_ret
        exact ⟨rfl, HB3.out⟩
end Go.Proofs.Ytilogpjbdemceaa.Oct
